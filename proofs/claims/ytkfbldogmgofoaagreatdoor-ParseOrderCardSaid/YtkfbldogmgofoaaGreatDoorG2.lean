/- The mirror's code of the seat's functions; printed by KPrint. -/
import Derived.Test.YtkfbldogmgofoaaGreatDoorG1
namespace Go.Proofs.YtkfbldogmgofoaaGreatDoor
/-- (*scribe/lex.lexer).number -/
def g60 : Mir.Fn := ⟨34, [],
(.seq
(.ops [⟨(some 3), none, (.p (.mv (.tmp 0))), 0, []⟩,
⟨(some 4), none, (.p (.nilchk (.tmp 3))), 0, []⟩,
⟨(some 5), none, (.p (.fieldAt 1 (.tmp 4))), 0, []⟩,
⟨(some 6), none, (.r (.load 1 false (.tmp 5))), 0, []⟩,
⟨(some 2), none, (.p (.mv (.tmp 6))), 0, []⟩])
(.seq
(.ops [⟨(some 7), none, (.p (.mv (.tmp 0))), 0, []⟩,
⟨(some 8), none, (.h (.call (.c (.fn 56 [] [])) [(.tmp 7), (.c (.fn 59 [] []))])), 0, []⟩])
(.seq
(.seq
(.ops [⟨(some 9), none, (.p (.mv (.tmp 0))), 0, []⟩,
⟨(some 10), none, (.h (.call (.c (.fn 58 [] [])) [(.tmp 9), (.c (.int .i64 0))])), 0, []⟩,
⟨(some 11), none, (.p (.bin .eql (.tmp 10) (.c (.int .u8 46)))), 0, []⟩])
(.cond (.tmp 11)
(.seq
(.ops [⟨(some 12), none, (.p (.mv (.tmp 0))), 0, []⟩,
⟨(some 13), none, (.p (.nilchk (.tmp 12))), 0, []⟩,
⟨(some 14), none, (.p (.fieldAt 1 (.tmp 13))), 0, []⟩,
⟨(some 15), none, (.r (.load 1 false (.tmp 14))), 0, []⟩,
⟨(some 16), none, (.p (.bin .add (.tmp 15) (.c (.int .i64 1)))), 0, []⟩,
⟨(some 17), none, (.p (.nilchk (.tmp 12))), 0, []⟩,
⟨(some 18), none, (.p (.fieldAt 1 (.tmp 17))), 0, []⟩,
⟨none, none, (.h (.store 1 (.tmp 18) (.tmp 16))), 0, []⟩])
(.ops [⟨(some 19), none, (.p (.mv (.tmp 0))), 0, []⟩,
⟨(some 20), none, (.h (.call (.c (.fn 56 [] [])) [(.tmp 19), (.c (.fn 59 [] []))])), 0, []⟩]))
.skip))
(.draw [⟨(some 21), none, (.p (.mv (.tmp 0))), 0, []⟩,
⟨(some 22), none, (.p (.mv (.tmp 0))), 1, []⟩,
⟨(some 23), none, (.p (.nilchk (.tmp 22))), 2, []⟩,
⟨(some 24), none, (.p (.fieldAt 0 (.tmp 23))), 3, []⟩,
⟨(some 25), none, (.r (.load 1 false (.tmp 24))), 4, []⟩,
⟨(some 26), none, (.p (.mv (.tmp 2))), 5, []⟩,
⟨(some 27), none, (.p (.mv (.tmp 0))), 6, []⟩,
⟨(some 28), none, (.p (.nilchk (.tmp 27))), 7, []⟩,
⟨(some 29), none, (.p (.fieldAt 1 (.tmp 28))), 8, []⟩,
⟨(some 30), none, (.r (.load 1 false (.tmp 29))), 9, []⟩,
⟨(some 31), none, (.p (.subStr (.tmp 25) (some (.tmp 26)) (some (.tmp 30)))), 10, []⟩,
⟨(some 32), none, (.p (.mv (.tmp 2))), 11, []⟩,
⟨(some 33), none, (.h (.call (.c (.fn 38 [] [])) [(.tmp 21), (.c (.int .i64 2)), (.tmp 31), (.tmp 32)])), 12, []⟩]))))⟩
theorem c60 : Mir.compF Tryz.prog Tryz.f60 = some g60 := by kernel_rfl
/-- scribe/lex.letter -/
def g61 : Mir.Fn := ⟨21, [(.tmp 2)],
(.seq
(.ops [⟨(some 2), none, (.p (.mv (.c (.bool false)))), 0, []⟩])
(.seq
(.ops [⟨(some 3), none, (.p (.mv (.tmp 0))), 0, []⟩,
⟨(some 4), none, (.p (.bin .geq (.tmp 3) (.c (.int .u8 97)))), 0, []⟩,
⟨(some 5), none, (.p (.mv (.tmp 4))), 0, []⟩,
⟨(some 6), (some (5, true)), (.p (.mv (.tmp 0))), 0, []⟩,
⟨(some 7), (some (5, true)), (.p (.bin .leq (.tmp 6) (.c (.int .u8 122)))), 0, []⟩,
⟨(some 8), none, (.p (.pick (.tmp 5) (.tmp 7) (.c (.bool false)))), 0, []⟩,
⟨(some 9), none, (.p (.mv (.tmp 8))), 0, []⟩,
⟨(some 10), (some (9, false)), (.p (.mv (.tmp 0))), 0, []⟩,
⟨(some 11), (some (9, false)), (.p (.bin .geq (.tmp 10) (.c (.int .u8 65)))), 0, []⟩,
⟨(some 12), (some (9, false)), (.p (.mv (.tmp 11))), 0, []⟩,
⟨(some 13), (some (12, true)), (.p (.mv (.tmp 0))), 0, []⟩,
⟨(some 14), (some (12, true)), (.p (.bin .leq (.tmp 13) (.c (.int .u8 90)))), 0, []⟩,
⟨(some 15), (some (9, false)), (.p (.pick (.tmp 12) (.tmp 14) (.c (.bool false)))), 0, []⟩,
⟨(some 16), none, (.p (.pick (.tmp 9) (.c (.bool true)) (.tmp 15))), 0, []⟩,
⟨(some 17), none, (.p (.mv (.tmp 16))), 0, []⟩,
⟨(some 18), (some (17, false)), (.p (.mv (.tmp 0))), 0, []⟩,
⟨(some 19), (some (17, false)), (.p (.bin .eql (.tmp 18) (.c (.int .u8 95)))), 0, []⟩,
⟨(some 20), none, (.p (.pick (.tmp 17) (.c (.bool true)) (.tmp 19))), 0, []⟩,
⟨(some 2), none, (.p (.mv (.tmp 20))), 0, []⟩])
.ret))⟩
theorem c61 : Mir.compF Tryz.prog Tryz.f61 = some g61 := by kernel_rfl
/-- (*scribe/lex.lexer).word -/
def g62 : Mir.Fn := ⟨56, [],
(.seq
(.ops [⟨(some 4), none, (.p (.mv (.tmp 0))), 0, []⟩,
⟨(some 5), none, (.p (.nilchk (.tmp 4))), 0, []⟩,
⟨(some 6), none, (.p (.fieldAt 1 (.tmp 5))), 0, []⟩,
⟨(some 7), none, (.r (.load 1 false (.tmp 6))), 0, []⟩,
⟨(some 2), none, (.p (.mv (.tmp 7))), 0, []⟩])
(.seq
(.ops [⟨(some 8), none, (.p (.mv (.tmp 0))), 0, []⟩,
⟨(some 9), none, (.h (.call (.c (.fn 56 [] [])) [(.tmp 8), (.c (.fn 80 [] []))])), 0, []⟩])
(.seq
(.draw [⟨(some 10), none, (.p (.mv (.tmp 0))), 0, []⟩,
⟨(some 11), none, (.p (.nilchk (.tmp 10))), 1, []⟩,
⟨(some 12), none, (.p (.fieldAt 0 (.tmp 11))), 2, []⟩,
⟨(some 13), none, (.r (.load 1 false (.tmp 12))), 3, []⟩,
⟨(some 14), none, (.p (.mv (.tmp 2))), 4, []⟩,
⟨(some 15), none, (.p (.mv (.tmp 0))), 5, []⟩,
⟨(some 16), none, (.p (.nilchk (.tmp 15))), 6, []⟩,
⟨(some 17), none, (.p (.fieldAt 1 (.tmp 16))), 7, []⟩,
⟨(some 18), none, (.r (.load 1 false (.tmp 17))), 8, []⟩,
⟨(some 19), none, (.p (.subStr (.tmp 13) (some (.tmp 14)) (some (.tmp 18)))), 9, []⟩,
⟨(some 3), none, (.p (.mv (.tmp 19))), 10, []⟩])
(.block 0 (.seq
(.ops [⟨(some 25), none, (.r (.load 1 false (.glob 1))), 0, []⟩,
⟨(some 26), none, (.p (.mv (.tmp 3))), 0, []⟩,
⟨(some 27), none, (.h (.call (.c (.fn 39 [] [])) [(.tmp 25), (.tmp 26)])), 0, []⟩,
⟨(some 24), none, (.p (.mv (.tmp 27))), 0, []⟩])
(.cond (.tmp 24)
(.ops [⟨(some 28), none, (.p (.mv (.tmp 0))), 0, []⟩,
⟨(some 29), none, (.p (.mv (.tmp 3))), 0, []⟩,
⟨(some 30), none, (.p (.mv (.tmp 2))), 0, []⟩,
⟨(some 31), none, (.h (.call (.c (.fn 38 [] [])) [(.tmp 28), (.c (.int .i64 7)), (.tmp 29), (.tmp 30)])), 0, []⟩])
(.seq
(.ops [⟨(some 33), none, (.r (.load 1 false (.glob 2))), 0, []⟩,
⟨(some 34), none, (.p (.mv (.tmp 3))), 0, []⟩,
⟨(some 35), none, (.h (.call (.c (.fn 39 [] [])) [(.tmp 33), (.tmp 34)])), 0, []⟩,
⟨(some 32), none, (.p (.mv (.tmp 35))), 0, []⟩])
(.cond (.tmp 32)
(.ops [⟨(some 36), none, (.p (.mv (.tmp 0))), 0, []⟩,
⟨(some 37), none, (.p (.mv (.tmp 3))), 0, []⟩,
⟨(some 38), none, (.p (.mv (.tmp 2))), 0, []⟩,
⟨(some 39), none, (.h (.call (.c (.fn 38 [] [])) [(.tmp 36), (.c (.int .i64 9)), (.tmp 37), (.tmp 38)])), 0, []⟩])
(.seq
(.ops [⟨(some 41), none, (.r (.load 1 false (.glob 3))), 0, []⟩,
⟨(some 42), none, (.p (.mv (.tmp 3))), 0, []⟩,
⟨(some 43), none, (.h (.call (.c (.fn 39 [] [])) [(.tmp 41), (.tmp 42)])), 0, []⟩,
⟨(some 40), none, (.p (.mv (.tmp 43))), 0, []⟩])
(.cond (.tmp 40)
(.ops [⟨(some 44), none, (.p (.mv (.tmp 0))), 0, []⟩,
⟨(some 45), none, (.p (.mv (.tmp 3))), 0, []⟩,
⟨(some 46), none, (.p (.mv (.tmp 2))), 0, []⟩,
⟨(some 47), none, (.h (.call (.c (.fn 38 [] [])) [(.tmp 44), (.c (.int .i64 10)), (.tmp 45), (.tmp 46)])), 0, []⟩])
(.seq
(.ops [⟨(some 49), none, (.p (.mv (.tmp 0))), 0, []⟩,
⟨(some 50), none, (.h (.call (.c (.fn 58 [] [])) [(.tmp 49), (.c (.int .i64 0))])), 0, []⟩,
⟨(some 51), none, (.p (.bin .eql (.tmp 50) (.c (.int .u8 40)))), 0, []⟩,
⟨(some 48), none, (.p (.mv (.tmp 51))), 0, []⟩])
(.cond (.tmp 48)
(.ops [⟨(some 52), none, (.p (.mv (.tmp 0))), 0, []⟩,
⟨(some 53), none, (.p (.mv (.tmp 3))), 0, []⟩,
⟨(some 54), none, (.p (.mv (.tmp 2))), 0, []⟩,
⟨(some 55), none, (.h (.call (.c (.fn 38 [] [])) [(.tmp 52), (.c (.int .i64 6)), (.tmp 53), (.tmp 54)])), 0, []⟩])
(.ops [⟨(some 20), none, (.p (.mv (.tmp 0))), 0, []⟩,
⟨(some 21), none, (.p (.mv (.tmp 3))), 0, []⟩,
⟨(some 22), none, (.p (.mv (.tmp 2))), 0, []⟩,
⟨(some 23), none, (.h (.call (.c (.fn 38 [] [])) [(.tmp 20), (.c (.int .i64 5)), (.tmp 21), (.tmp 22)])), 0, []⟩])))))))))))))⟩
theorem c62 : Mir.compF Tryz.prog Tryz.f62 = some g62 := by kernel_rfl
/-- (*scribe/lex.lexer).quoted -/
def g63 : Mir.Fn := ⟨103, [(.tmp 8)],
(.seq
(.ops [⟨(some 8), none, (.p (.mv (.c (.int .i64 0)))), 0, []⟩])
(.seq
(.ops [⟨(some 14), none, (.p (.mv (.tmp 0))), 0, []⟩,
⟨(some 15), none, (.p (.nilchk (.tmp 14))), 0, []⟩,
⟨(some 16), none, (.p (.fieldAt 1 (.tmp 15))), 0, []⟩,
⟨(some 17), none, (.r (.load 1 false (.tmp 16))), 0, []⟩,
⟨(some 9), none, (.p (.mv (.tmp 17))), 0, []⟩])
(.seq
(.ops [⟨(some 10), none, (.a (.allocW [.nilptr, .nilsl])), 0, []⟩])
(.seq
(.ops [⟨(some 18), none, (.p (.mv (.tmp 0))), 0, []⟩,
⟨(some 19), none, (.p (.nilchk (.tmp 18))), 0, []⟩,
⟨(some 20), none, (.p (.fieldAt 1 (.tmp 19))), 0, []⟩,
⟨(some 21), none, (.r (.load 1 false (.tmp 20))), 0, []⟩,
⟨(some 22), none, (.p (.bin .add (.tmp 21) (.c (.int .i64 1)))), 0, []⟩,
⟨(some 23), none, (.p (.nilchk (.tmp 18))), 0, []⟩,
⟨(some 24), none, (.p (.fieldAt 1 (.tmp 23))), 0, []⟩,
⟨none, none, (.h (.store 1 (.tmp 24) (.tmp 22))), 0, []⟩])
(.block 0 (.loop (.seq
(.block 1 (.seq
(.ops [⟨(some 32), none, (.p (.mv (.tmp 0))), 0, []⟩,
⟨(some 33), none, (.h (.call (.c (.fn 58 [] [])) [(.tmp 32), (.c (.int .i64 0))])), 0, []⟩,
⟨(some 11), none, (.p (.mv (.tmp 33))), 0, []⟩])
(.block 2 (.seq
(.seq
(.draw [⟨(some 37), none, (.p (.mv (.tmp 0))), 0, []⟩,
⟨(some 38), none, (.p (.nilchk (.tmp 37))), 1, []⟩,
⟨(some 39), none, (.p (.fieldAt 1 (.tmp 38))), 2, []⟩,
⟨(some 40), none, (.r (.load 1 false (.tmp 39))), 3, []⟩,
⟨(some 41), none, (.p (.mv (.tmp 0))), 4, []⟩,
⟨(some 42), none, (.p (.nilchk (.tmp 41))), 5, []⟩,
⟨(some 43), none, (.p (.fieldAt 0 (.tmp 42))), 6, []⟩,
⟨(some 44), none, (.r (.load 1 false (.tmp 43))), 7, []⟩,
⟨(some 45), none, (.p (.lenStr (.tmp 44))), 8, []⟩,
⟨(some 46), none, (.p (.bin .geq (.tmp 40) (.tmp 45))), 9, []⟩,
⟨(some 36), none, (.p (.mv (.tmp 46))), 10, []⟩])
(.cond (.tmp 36)
.skip
(.ops [⟨(some 47), none, (.p (.mv (.tmp 11))), 0, []⟩,
⟨(some 48), none, (.p (.bin .eql (.tmp 47) (.c (.int .u8 10)))), 0, []⟩,
⟨(some 36), none, (.p (.mv (.tmp 48))), 0, []⟩])))
(.cond (.tmp 36)
(.seq
(.ops [⟨(some 49), none, (.p (.mv (.tmp 0))), 0, []⟩,
⟨(some 50), none, (.p (.mv (.tmp 9))), 0, []⟩,
⟨(some 51), none, (.p (.nilchk (.tmp 49))), 0, []⟩,
⟨(some 52), none, (.p (.fieldAt 1 (.tmp 51))), 0, []⟩,
⟨none, none, (.h (.store 1 (.tmp 52) (.tmp 50))), 0, []⟩])
(.seq
(.ops [⟨(some 8), none, (.p (.mv (.c (.int .i64 9)))), 0, []⟩])
.ret))
(.seq
(.ops [⟨(some 54), none, (.p (.mv (.tmp 11))), 0, []⟩,
⟨(some 55), none, (.p (.mv (.tmp 2))), 0, []⟩,
⟨(some 56), none, (.p (.bin .eql (.tmp 54) (.tmp 55))), 0, []⟩,
⟨(some 53), none, (.p (.mv (.tmp 56))), 0, []⟩])
(.cond (.tmp 53)
(.seq
(.ops [⟨(some 57), none, (.p (.mv (.tmp 0))), 0, []⟩,
⟨(some 58), none, (.p (.nilchk (.tmp 57))), 0, []⟩,
⟨(some 59), none, (.p (.fieldAt 1 (.tmp 58))), 0, []⟩,
⟨(some 60), none, (.r (.load 1 false (.tmp 59))), 0, []⟩,
⟨(some 61), none, (.p (.bin .add (.tmp 60) (.c (.int .i64 1)))), 0, []⟩,
⟨(some 62), none, (.p (.nilchk (.tmp 57))), 0, []⟩,
⟨(some 63), none, (.p (.fieldAt 1 (.tmp 62))), 0, []⟩,
⟨none, none, (.h (.store 1 (.tmp 63) (.tmp 61))), 0, []⟩])
(.seq
(.ops [⟨(some 64), none, (.p (.mv (.tmp 0))), 0, []⟩,
⟨(some 65), none, (.p (.mv (.tmp 1))), 0, []⟩,
⟨(some 66), none, (.h (.call (.c (.fn 55 [] [])) [(.tmp 10)])), 0, []⟩,
⟨(some 67), none, (.p (.mv (.tmp 9))), 0, []⟩,
⟨(some 68), none, (.h (.call (.c (.fn 38 [] [])) [(.tmp 64), (.tmp 65), (.tmp 66), (.tmp 67)])), 0, []⟩])
(.seq
(.ops [⟨(some 8), none, (.p (.mv (.c (.int .i64 0)))), 0, []⟩])
.ret)))
(.seq
(.ops [⟨(some 70), none, (.p (.mv (.tmp 11))), 0, []⟩,
⟨(some 71), none, (.p (.bin .eql (.tmp 70) (.c (.int .u8 92)))), 0, []⟩,
⟨(some 69), none, (.p (.mv (.tmp 71))), 0, []⟩])
(.cond (.tmp 69)
(.seq
(.ops [⟨(some 73), none, (.p (.mv (.tmp 3))), 0, []⟩,
⟨(some 74), none, (.p (.mv (.tmp 0))), 0, []⟩,
⟨(some 75), none, (.h (.call (.c (.fn 58 [] [])) [(.tmp 74), (.c (.int .i64 1))])), 0, []⟩,
⟨(some 76), none, (.h (.call (.tmp 73) [(.tmp 75)])), 0, []⟩,
⟨(some 72), none, (.p (.mv (.tmp 76))), 0, []⟩,
⟨(some 77), none, (.p (.ext (.tmp 72) 0)), 0, []⟩,
⟨(some 78), none, (.p (.ext (.tmp 72) 1)), 0, []⟩,
⟨(some 12), none, (.p (.mv (.tmp 77))), 0, []⟩,
⟨(some 13), none, (.p (.mv (.tmp 78))), 0, []⟩])
(.seq
(.seq
(.draw [⟨(some 79), none, (.p (.mv (.tmp 13))), 0, []⟩,
⟨(some 80), none, (.p (.un .not (.tmp 79))), 1, []⟩,
⟨(some 81), none, (.p (.mv (.tmp 80))), 2, []⟩,
⟨(some 82), (some (81, false)), (.p (.mv (.tmp 0))), 3, []⟩,
⟨(some 83), (some (81, false)), (.p (.nilchk (.tmp 82))), 4, []⟩,
⟨(some 84), (some (81, false)), (.p (.fieldAt 1 (.tmp 83))), 5, []⟩,
⟨(some 85), (some (81, false)), (.r (.load 1 false (.tmp 84))), 6, []⟩,
⟨(some 86), (some (81, false)), (.p (.bin .add (.tmp 85) (.c (.int .i64 1)))), 7, []⟩,
⟨(some 87), (some (81, false)), (.p (.mv (.tmp 0))), 8, []⟩,
⟨(some 88), (some (81, false)), (.p (.nilchk (.tmp 87))), 9, []⟩,
⟨(some 89), (some (81, false)), (.p (.fieldAt 0 (.tmp 88))), 10, []⟩,
⟨(some 90), (some (81, false)), (.r (.load 1 false (.tmp 89))), 11, []⟩,
⟨(some 91), (some (81, false)), (.p (.lenStr (.tmp 90))), 12, []⟩,
⟨(some 92), (some (81, false)), (.p (.bin .geq (.tmp 86) (.tmp 91))), 13, []⟩,
⟨(some 93), none, (.p (.pick (.tmp 81) (.c (.bool true)) (.tmp 92))), 14, []⟩])
(.cond (.tmp 93)
(.seq
(.ops [⟨(some 8), none, (.p (.mv (.c (.int .i64 9)))), 0, []⟩])
.ret)
.skip))
(.seq
(.ops [⟨(some 94), none, (.p (.mv (.tmp 0))), 0, []⟩,
⟨(some 95), none, (.p (.nilchk (.tmp 94))), 0, []⟩,
⟨(some 96), none, (.p (.fieldAt 1 (.tmp 95))), 0, []⟩,
⟨(some 97), none, (.r (.load 1 false (.tmp 96))), 0, []⟩,
⟨(some 98), none, (.p (.bin .add (.tmp 97) (.c (.int .i64 1)))), 0, []⟩,
⟨(some 99), none, (.p (.nilchk (.tmp 94))), 0, []⟩,
⟨(some 100), none, (.p (.fieldAt 1 (.tmp 99))), 0, []⟩,
⟨none, none, (.h (.store 1 (.tmp 100) (.tmp 98))), 0, []⟩])
(.ops [⟨(some 101), none, (.p (.mv (.tmp 12))), 0, []⟩,
⟨(some 102), none, (.h (.call (.c (.fn 78 [] [])) [(.tmp 10), (.tmp 101)])), 0, []⟩]))))
(.ops [⟨(some 34), none, (.p (.mv (.tmp 11))), 0, []⟩,
⟨(some 35), none, (.h (.call (.c (.fn 77 [] [])) [(.tmp 10), (.tmp 34)])), 0, []⟩]))))))))))
(.ops [⟨(some 25), none, (.p (.mv (.tmp 0))), 0, []⟩,
⟨(some 26), none, (.p (.nilchk (.tmp 25))), 0, []⟩,
⟨(some 27), none, (.p (.fieldAt 1 (.tmp 26))), 0, []⟩,
⟨(some 28), none, (.r (.load 1 false (.tmp 27))), 0, []⟩,
⟨(some 29), none, (.p (.bin .add (.tmp 28) (.c (.int .i64 1)))), 0, []⟩,
⟨(some 30), none, (.p (.nilchk (.tmp 25))), 0, []⟩,
⟨(some 31), none, (.p (.fieldAt 1 (.tmp 30))), 0, []⟩,
⟨none, none, (.h (.store 1 (.tmp 31) (.tmp 29))), 0, []⟩]))))))))⟩
theorem c63 : Mir.compF Tryz.prog Tryz.f63 = some g63 := by kernel_rfl
/-- scribe/lex.inString -/
def g64 : Mir.Fn := ⟨16, [(.tmp 2), (.tmp 3)],
(.seq
(.ops [⟨(some 2), none, (.p (.mv (.c (.str [])))), 0, []⟩,
⟨(some 3), none, (.p (.mv (.c (.bool false)))), 0, []⟩])
(.seq
(.seq
(.ops [⟨(some 4), none, (.p (.mv (.tmp 0))), 0, []⟩])
(.block 0 (.seq
(.ops [⟨(some 6), none, (.p (.bin .eql (.tmp 4) (.c (.int .u8 110)))), 0, []⟩,
⟨(some 5), none, (.p (.mv (.tmp 6))), 0, []⟩])
(.cond (.tmp 5)
(.seq
(.ops [⟨(some 2), none, (.p (.mv (.c (.str [10])))), 0, []⟩,
⟨(some 3), none, (.p (.mv (.c (.bool true)))), 0, []⟩])
.ret)
(.seq
(.ops [⟨(some 8), none, (.p (.bin .eql (.tmp 4) (.c (.int .u8 116)))), 0, []⟩,
⟨(some 7), none, (.p (.mv (.tmp 8))), 0, []⟩])
(.cond (.tmp 7)
(.seq
(.ops [⟨(some 2), none, (.p (.mv (.c (.str [9])))), 0, []⟩,
⟨(some 3), none, (.p (.mv (.c (.bool true)))), 0, []⟩])
.ret)
(.seq
(.seq
(.ops [⟨(some 10), none, (.p (.bin .eql (.tmp 4) (.c (.int .u8 34)))), 0, []⟩,
⟨(some 9), none, (.p (.mv (.tmp 10))), 0, []⟩])
(.cond (.tmp 9)
.skip
(.seq
(.ops [⟨(some 11), none, (.p (.bin .eql (.tmp 4) (.c (.int .u8 92)))), 0, []⟩,
⟨(some 9), none, (.p (.mv (.tmp 11))), 0, []⟩])
(.cond (.tmp 9)
.skip
(.ops [⟨(some 12), none, (.p (.bin .eql (.tmp 4) (.c (.int .u8 47)))), 0, []⟩,
⟨(some 9), none, (.p (.mv (.tmp 12))), 0, []⟩])))))
(.cond (.tmp 9)
(.seq
(.ops [⟨(some 13), none, (.p (.mv (.tmp 0))), 0, []⟩,
⟨(some 14), none, (.a (.mkSl [(.int .u8 0)] 1 1 [(0, (1, (.tmp 13)))])), 0, []⟩,
⟨(some 15), none, (.r (.toStr (.tmp 14))), 0, []⟩,
⟨(some 2), none, (.p (.mv (.tmp 15))), 0, []⟩,
⟨(some 3), none, (.p (.mv (.c (.bool true)))), 0, []⟩])
.ret)
.skip))))))))
(.seq
(.ops [⟨(some 2), none, (.p (.mv (.c (.str [])))), 0, []⟩,
⟨(some 3), none, (.p (.mv (.c (.bool false)))), 0, []⟩])
.ret)))⟩
theorem c64 : Mir.compF Tryz.prog Tryz.f64 = some g64 := by kernel_rfl
/-- (*scribe/lex.lexer).slash -/
def g65 : Mir.Fn := ⟨41, [(.tmp 2)],
(.seq
(.ops [⟨(some 2), none, (.p (.mv (.c (.bool false)))), 0, []⟩])
(.seq
(.seq
(.ops [⟨(some 4), none, (.p (.mv (.tmp 0))), 0, []⟩,
⟨(some 5), none, (.p (.nilchk (.tmp 4))), 0, []⟩,
⟨(some 6), none, (.p (.fieldAt 2 (.tmp 5))), 0, []⟩,
⟨(some 7), none, (.r (.load 1 false (.tmp 6))), 0, []⟩,
⟨(some 8), none, (.p (.lenSl (.tmp 7))), 0, []⟩,
⟨(some 9), none, (.p (.bin .eql (.tmp 8) (.c (.int .i64 0)))), 0, []⟩])
(.cond (.tmp 9)
(.seq
(.ops [⟨(some 2), none, (.p (.mv (.c (.bool true)))), 0, []⟩])
.ret)
.skip))
(.seq
(.draw [⟨(some 10), none, (.p (.mv (.tmp 0))), 0, []⟩,
⟨(some 11), none, (.p (.nilchk (.tmp 10))), 1, []⟩,
⟨(some 12), none, (.p (.fieldAt 2 (.tmp 11))), 2, []⟩,
⟨(some 13), none, (.r (.load 1 false (.tmp 12))), 3, []⟩,
⟨(some 14), none, (.p (.mv (.tmp 0))), 4, []⟩,
⟨(some 15), none, (.p (.nilchk (.tmp 14))), 5, []⟩,
⟨(some 16), none, (.p (.fieldAt 2 (.tmp 15))), 6, []⟩,
⟨(some 17), none, (.r (.load 1 false (.tmp 16))), 7, []⟩,
⟨(some 18), none, (.p (.lenSl (.tmp 17))), 8, []⟩,
⟨(some 19), none, (.p (.bin .sub (.tmp 18) (.c (.int .i64 1)))), 9, []⟩,
⟨(some 20), none, (.p (.idxSl 3 (.tmp 13) (.tmp 19))), 10, []⟩,
⟨(some 21), none, (.r (.load 3 true (.tmp 20))), 11, []⟩,
⟨(some 3), none, (.a (.alloc [(.int .i64 0), (.str []), (.int .i64 0)])), 12, []⟩,
⟨none, none, (.h (.store 3 (.tmp 3) (.tmp 21))), 13, []⟩])
(.seq
(.seq
(.ops [⟨(some 22), none, (.p (.fieldAt 0 (.tmp 3))), 0, []⟩,
⟨(some 23), none, (.r (.load 1 false (.tmp 22))), 0, []⟩])
(.block 0 (.seq
(.seq
(.ops [⟨(some 25), none, (.p (.bin .eql (.tmp 23) (.c (.int .i64 2)))), 0, []⟩,
⟨(some 24), none, (.p (.mv (.tmp 25))), 0, []⟩])
(.cond (.tmp 24)
.skip
(.seq
(.ops [⟨(some 26), none, (.p (.bin .eql (.tmp 23) (.c (.int .i64 3)))), 0, []⟩,
⟨(some 24), none, (.p (.mv (.tmp 26))), 0, []⟩])
(.cond (.tmp 24)
.skip
(.seq
(.ops [⟨(some 27), none, (.p (.bin .eql (.tmp 23) (.c (.int .i64 4)))), 0, []⟩,
⟨(some 24), none, (.p (.mv (.tmp 27))), 0, []⟩])
(.cond (.tmp 24)
.skip
(.ops [⟨(some 28), none, (.p (.bin .eql (.tmp 23) (.c (.int .i64 5)))), 0, []⟩,
⟨(some 24), none, (.p (.mv (.tmp 28))), 0, []⟩])))))))
(.cond (.tmp 24)
(.seq
(.ops [⟨(some 2), none, (.p (.mv (.c (.bool false)))), 0, []⟩])
.ret)
(.seq
(.ops [⟨(some 30), none, (.p (.bin .eql (.tmp 23) (.c (.int .i64 9)))), 0, []⟩,
⟨(some 29), none, (.p (.mv (.tmp 30))), 0, []⟩])
(.cond (.tmp 29)
(.seq
(.ops [⟨(some 31), none, (.p (.fieldAt 1 (.tmp 3))), 0, []⟩,
⟨(some 32), none, (.r (.load 1 false (.tmp 31))), 0, []⟩,
⟨(some 33), none, (.p (.bin .neq (.tmp 32) (.c (.str [108, 101, 110, 103, 116, 104])))), 0, []⟩,
⟨(some 2), none, (.p (.mv (.tmp 33))), 0, []⟩])
.ret)
(.seq
(.ops [⟨(some 35), none, (.p (.bin .eql (.tmp 23) (.c (.int .i64 8)))), 0, []⟩,
⟨(some 34), none, (.p (.mv (.tmp 35))), 0, []⟩])
(.cond (.tmp 34)
(.seq
(.ops [⟨(some 36), none, (.a (.mkSl [(.str [])] 1 4 [(0, (1, (.c (.str [41])))), (1, (1, (.c (.str [93])))), (2, (1, (.c (.str [43, 43])))), (3, (1, (.c (.str [45, 45]))))])), 0, []⟩,
⟨(some 37), none, (.p (.fieldAt 1 (.tmp 3))), 0, []⟩,
⟨(some 38), none, (.r (.load 1 false (.tmp 37))), 0, []⟩,
⟨(some 39), none, (.h (.call (.c (.fn 39 [] [])) [(.tmp 36), (.tmp 38)])), 0, []⟩,
⟨(some 40), none, (.p (.un .not (.tmp 39))), 0, []⟩,
⟨(some 2), none, (.p (.mv (.tmp 40))), 0, []⟩])
.ret)
.skip))))))))
(.seq
(.ops [⟨(some 2), none, (.p (.mv (.c (.bool true)))), 0, []⟩])
.ret)))))⟩
theorem c65 : Mir.compF Tryz.prog Tryz.f65 = some g65 := by kernel_rfl
/-- scribe/lex.inRegex -/
def g66 : Mir.Fn := ⟨11, [(.tmp 2), (.tmp 3)],
(.seq
(.ops [⟨(some 2), none, (.p (.mv (.c (.str [])))), 0, []⟩,
⟨(some 3), none, (.p (.mv (.c (.bool false)))), 0, []⟩])
(.seq
(.seq
(.ops [⟨(some 4), none, (.p (.mv (.tmp 0))), 0, []⟩,
⟨(some 5), none, (.p (.bin .eql (.tmp 4) (.c (.int .u8 47)))), 0, []⟩])
(.cond (.tmp 5)
(.seq
(.ops [⟨(some 2), none, (.p (.mv (.c (.str [47])))), 0, []⟩,
⟨(some 3), none, (.p (.mv (.c (.bool true)))), 0, []⟩])
.ret)
.skip))
(.seq
(.ops [⟨(some 6), none, (.p (.mv (.tmp 0))), 0, []⟩,
⟨(some 7), none, (.a (.mkSl [(.int .u8 0)] 1 2 [(0, (1, (.c (.int .u8 92)))), (1, (1, (.tmp 6)))])), 0, []⟩,
⟨(some 8), none, (.r (.toStr (.tmp 7))), 0, []⟩,
⟨(some 9), none, (.p (.mv (.tmp 0))), 0, []⟩,
⟨(some 10), none, (.p (.bin .neq (.tmp 9) (.c (.int .u8 10)))), 0, []⟩,
⟨(some 2), none, (.p (.mv (.tmp 8))), 0, []⟩,
⟨(some 3), none, (.p (.mv (.tmp 10))), 0, []⟩])
.ret)))⟩
theorem c66 : Mir.compF Tryz.prog Tryz.f66 = some g66 := by kernel_rfl
/-- (*scribe/lex.lexer).sign -/
def g67 : Mir.Fn := ⟨73, [(.tmp 2)],
(.seq
(.ops [⟨(some 2), none, (.p (.mv (.c (.int .i64 0)))), 0, []⟩])
(.seq
(.draw [⟨(some 4), none, (.p (.mv (.tmp 0))), 0, []⟩,
⟨(some 5), none, (.p (.nilchk (.tmp 4))), 1, []⟩,
⟨(some 6), none, (.p (.fieldAt 0 (.tmp 5))), 2, []⟩,
⟨(some 7), none, (.r (.load 1 false (.tmp 6))), 3, []⟩,
⟨(some 8), none, (.p (.mv (.tmp 0))), 4, []⟩,
⟨(some 9), none, (.p (.nilchk (.tmp 8))), 5, []⟩,
⟨(some 10), none, (.p (.fieldAt 1 (.tmp 9))), 6, []⟩,
⟨(some 11), none, (.r (.load 1 false (.tmp 10))), 7, []⟩,
⟨(some 12), none, (.p (.mv (.tmp 0))), 8, []⟩,
⟨(some 13), none, (.p (.nilchk (.tmp 12))), 9, []⟩,
⟨(some 14), none, (.p (.fieldAt 1 (.tmp 13))), 10, []⟩,
⟨(some 15), none, (.r (.load 1 false (.tmp 14))), 11, []⟩,
⟨(some 16), none, (.p (.bin .add (.tmp 15) (.c (.int .i64 2)))), 12, []⟩,
⟨(some 17), none, (.p (.mv (.tmp 0))), 13, []⟩,
⟨(some 18), none, (.p (.nilchk (.tmp 17))), 14, []⟩,
⟨(some 19), none, (.p (.fieldAt 0 (.tmp 18))), 15, []⟩,
⟨(some 20), none, (.r (.load 1 false (.tmp 19))), 16, []⟩,
⟨(some 21), none, (.p (.lenStr (.tmp 20))), 17, []⟩,
⟨(some 22), none, (.p (.mnmx false (.tmp 16) [(.tmp 21)])), 18, []⟩,
⟨(some 23), none, (.p (.subStr (.tmp 7) (some (.tmp 11)) (some (.tmp 22)))), 19, []⟩,
⟨(some 3), none, (.p (.mv (.tmp 23))), 20, []⟩])
(.seq
(.seq
(.ops [⟨(some 24), none, (.p (.mv (.tmp 3))), 0, []⟩,
⟨(some 25), none, (.p (.lenStr (.tmp 24))), 0, []⟩,
⟨(some 26), none, (.p (.bin .eql (.tmp 25) (.c (.int .i64 2)))), 0, []⟩,
⟨(some 27), none, (.p (.mv (.tmp 26))), 0, []⟩,
⟨(some 28), (some (27, true)), (.p (.mv (.tmp 3))), 0, []⟩,
⟨(some 29), (some (27, true)), (.p (.bin .add (.c (.str [32])) (.tmp 28))), 0, []⟩,
⟨(some 30), (some (27, true)), (.p (.bin .add (.tmp 29) (.c (.str [32])))), 0, []⟩,
⟨(some 31), (some (27, true)), (.h (.call (.c (.fn 81 [] [])) [(.c (.str [32, 43, 61, 32, 45, 61, 32, 42, 61, 32, 47, 61, 32, 37, 61, 32, 61, 61, 32, 60, 61, 32, 62, 61, 32, 33, 61, 32, 43, 43, 32, 45, 45, 32, 38, 38, 32, 124, 124, 32, 62, 62, 32, 33, 126, 32])), (.tmp 30)])), 0, []⟩,
⟨(some 32), none, (.p (.pick (.tmp 27) (.tmp 31) (.c (.bool false)))), 0, []⟩])
(.cond (.tmp 32)
(.seq
(.ops [⟨(some 33), none, (.p (.mv (.tmp 0))), 0, []⟩,
⟨(some 34), none, (.p (.mv (.tmp 3))), 0, []⟩,
⟨(some 35), none, (.p (.mv (.tmp 0))), 0, []⟩,
⟨(some 36), none, (.p (.nilchk (.tmp 35))), 0, []⟩,
⟨(some 37), none, (.p (.fieldAt 1 (.tmp 36))), 0, []⟩,
⟨(some 38), none, (.r (.load 1 false (.tmp 37))), 0, []⟩,
⟨(some 39), none, (.h (.call (.c (.fn 38 [] [])) [(.tmp 33), (.c (.int .i64 8)), (.tmp 34), (.tmp 38)])), 0, []⟩])
(.seq
(.ops [⟨(some 40), none, (.p (.mv (.tmp 0))), 0, []⟩,
⟨(some 41), none, (.p (.nilchk (.tmp 40))), 0, []⟩,
⟨(some 42), none, (.p (.fieldAt 1 (.tmp 41))), 0, []⟩,
⟨(some 43), none, (.r (.load 1 false (.tmp 42))), 0, []⟩,
⟨(some 44), none, (.p (.bin .add (.tmp 43) (.c (.int .i64 2)))), 0, []⟩,
⟨(some 45), none, (.p (.nilchk (.tmp 40))), 0, []⟩,
⟨(some 46), none, (.p (.fieldAt 1 (.tmp 45))), 0, []⟩,
⟨none, none, (.h (.store 1 (.tmp 46) (.tmp 44))), 0, []⟩])
(.seq
(.ops [⟨(some 2), none, (.p (.mv (.c (.int .i64 0)))), 0, []⟩])
.ret)))
.skip))
(.seq
(.seq
(.draw [⟨(some 47), none, (.p (.mv (.tmp 0))), 0, []⟩,
⟨(some 48), none, (.p (.nilchk (.tmp 47))), 1, []⟩,
⟨(some 49), none, (.p (.fieldAt 0 (.tmp 48))), 2, []⟩,
⟨(some 50), none, (.r (.load 1 false (.tmp 49))), 3, []⟩,
⟨(some 51), none, (.p (.mv (.tmp 0))), 4, []⟩,
⟨(some 52), none, (.p (.nilchk (.tmp 51))), 5, []⟩,
⟨(some 53), none, (.p (.fieldAt 1 (.tmp 52))), 6, []⟩,
⟨(some 54), none, (.r (.load 1 false (.tmp 53))), 7, []⟩,
⟨(some 55), none, (.p (.idxStr (.tmp 50) (.tmp 54))), 8, []⟩,
⟨(some 56), none, (.h (.call (.c (.fn 82 [] [])) [(.c (.str [123, 125, 40, 41, 91, 93, 59, 44, 43, 45, 42, 47, 37, 33, 62, 60, 124, 63, 58, 126, 36, 61])), (.tmp 55)])), 9, []⟩,
⟨(some 57), none, (.p (.bin .lss (.tmp 56) (.c (.int .i64 0)))), 10, []⟩])
(.cond (.tmp 57)
(.seq
(.ops [⟨(some 2), none, (.p (.mv (.c (.int .i64 9)))), 0, []⟩])
.ret)
.skip))
(.seq
(.draw [⟨(some 58), none, (.p (.mv (.tmp 0))), 0, []⟩,
⟨(some 59), none, (.p (.mv (.tmp 3))), 1, []⟩,
⟨(some 60), none, (.p (.subStr (.tmp 59) none (some (.c (.int .i64 1))))), 2, []⟩,
⟨(some 61), none, (.p (.mv (.tmp 0))), 3, []⟩,
⟨(some 62), none, (.p (.nilchk (.tmp 61))), 4, []⟩,
⟨(some 63), none, (.p (.fieldAt 1 (.tmp 62))), 5, []⟩,
⟨(some 64), none, (.r (.load 1 false (.tmp 63))), 6, []⟩,
⟨(some 65), none, (.h (.call (.c (.fn 38 [] [])) [(.tmp 58), (.c (.int .i64 8)), (.tmp 60), (.tmp 64)])), 7, []⟩])
(.seq
(.ops [⟨(some 66), none, (.p (.mv (.tmp 0))), 0, []⟩,
⟨(some 67), none, (.p (.nilchk (.tmp 66))), 0, []⟩,
⟨(some 68), none, (.p (.fieldAt 1 (.tmp 67))), 0, []⟩,
⟨(some 69), none, (.r (.load 1 false (.tmp 68))), 0, []⟩,
⟨(some 70), none, (.p (.bin .add (.tmp 69) (.c (.int .i64 1)))), 0, []⟩,
⟨(some 71), none, (.p (.nilchk (.tmp 66))), 0, []⟩,
⟨(some 72), none, (.p (.fieldAt 1 (.tmp 71))), 0, []⟩,
⟨none, none, (.h (.store 1 (.tmp 72) (.tmp 70))), 0, []⟩])
(.seq
(.ops [⟨(some 2), none, (.p (.mv (.c (.int .i64 0)))), 0, []⟩])
.ret)))))))⟩
theorem c67 : Mir.compF Tryz.prog Tryz.f67 = some g67 := by kernel_rfl
/-- slices.Index[[]string,string] -/
def g68 : Mir.Fn := ⟨19, [(.tmp 4)],
(.seq
(.ops [⟨(some 4), none, (.p (.mv (.c (.int .i64 0)))), 0, []⟩])
(.seq
(.seq
(.ops [⟨(some 6), none, (.p (.mv (.tmp 0))), 0, []⟩,
⟨(some 7), none, (.p (.lenSl (.tmp 6))), 0, []⟩,
⟨(some 8), none, (.p (.mv (.c (.int .i64 0)))), 0, []⟩])
(.block 0 (.loop (.seq
(.ops [⟨(some 9), none, (.p (.bin .lss (.tmp 8) (.tmp 7))), 0, []⟩])
(.seq
(.cond (.tmp 9)
.skip
(.exit 0))
(.seq
(.block 1 (.seq
(.ops [⟨(some 10), none, (.p (.mv (.tmp 8))), 0, []⟩,
⟨(some 5), none, (.p (.mv (.tmp 10))), 0, []⟩])
(.seq
(.ops [⟨(some 11), none, (.p (.mv (.tmp 1))), 0, []⟩,
⟨(some 12), none, (.p (.mv (.tmp 0))), 0, []⟩,
⟨(some 13), none, (.p (.mv (.tmp 5))), 0, []⟩,
⟨(some 14), none, (.p (.idxSl 1 (.tmp 12) (.tmp 13))), 0, []⟩,
⟨(some 15), none, (.r (.load 1 false (.tmp 14))), 0, []⟩,
⟨(some 16), none, (.p (.bin .eql (.tmp 11) (.tmp 15))), 0, []⟩])
(.cond (.tmp 16)
(.seq
(.ops [⟨(some 17), none, (.p (.mv (.tmp 5))), 0, []⟩,
⟨(some 4), none, (.p (.mv (.tmp 17))), 0, []⟩])
.ret)
.skip))))
(.ops [⟨(some 18), none, (.p (.bin .add (.tmp 8) (.c (.int .i64 1)))), 0, []⟩,
⟨(some 8), none, (.p (.mv (.tmp 18))), 0, []⟩])))))))
(.seq
(.ops [⟨(some 4), none, (.p (.mv (.c (.int .i64 (-1))))), 0, []⟩])
.ret)))⟩
theorem c68 : Mir.compF Tryz.prog Tryz.f68 = some g68 := by kernel_rfl
/-- (*scribe/parse.parser).stmt -/
def g69 : Mir.Fn := ⟨43, [(.cell 2 4 true)],
(.seq
(.ops [⟨(some 2), none, (.a (.alloc [(.str []), (.str []), (.int .i64 0), .nilsl])), 0, []⟩])
(.seq
(.ops [⟨(some 4), none, (.p (.mv (.tmp 0))), 0, []⟩,
⟨(some 5), none, (.h (.call (.c (.fn 71 [] [])) [(.tmp 4)])), 0, []⟩])
(.seq
(.ops [⟨(some 6), none, (.p (.mv (.tmp 0))), 0, []⟩,
⟨none, none, (.h (.dfr (.c (.fn 72 [] [])) [(.tmp 6)])), 0, []⟩])
(.seq
(.block 0 (.seq
(.ops [⟨(some 8), none, (.p (.mv (.tmp 0))), 0, []⟩,
⟨(some 9), none, (.a (.mkSl [(.str [])] 1 1 [(0, (1, (.c (.str [123]))))])), 0, []⟩,
⟨(some 10), none, (.h (.call (.c (.fn 26 [] [])) [(.tmp 8), (.tmp 9)])), 0, []⟩,
⟨(some 7), none, (.p (.mv (.tmp 10))), 0, []⟩])
(.cond (.tmp 7)
(.seq
(.ops [⟨(some 11), none, (.p (.mv (.tmp 0))), 0, []⟩,
⟨(some 12), none, (.h (.call (.c (.fn 41 [] [])) [(.tmp 11)])), 0, []⟩,
⟨none, none, (.h (.store 4 (.tmp 2) (.tmp 12))), 0, []⟩])
.ret)
(.seq
(.ops [⟨(some 14), none, (.p (.mv (.tmp 0))), 0, []⟩,
⟨(some 15), none, (.h (.call (.c (.fn 40 [] [])) [(.tmp 14), (.c (.str [59]))])), 0, []⟩,
⟨(some 13), none, (.p (.mv (.tmp 15))), 0, []⟩])
(.cond (.tmp 13)
(.seq
(.ops [⟨(some 16), none, (.h (.call (.c (.fn 25 [] [])) [(.c (.str [101, 109, 112, 116, 121])), (.c .nilsl)])), 0, []⟩,
⟨none, none, (.h (.store 4 (.tmp 2) (.tmp 16))), 0, []⟩])
.ret)
(.seq
(.ops [⟨(some 18), none, (.p (.mv (.tmp 0))), 0, []⟩,
⟨(some 19), none, (.h (.call (.c (.fn 40 [] [])) [(.tmp 18), (.c (.str [105, 102]))])), 0, []⟩,
⟨(some 17), none, (.p (.mv (.tmp 19))), 0, []⟩])
(.cond (.tmp 17)
(.seq
(.ops [⟨(some 20), none, (.p (.mv (.tmp 0))), 0, []⟩,
⟨(some 21), none, (.h (.call (.c (.fn 83 [] [])) [(.tmp 20)])), 0, []⟩,
⟨none, none, (.h (.store 4 (.tmp 2) (.tmp 21))), 0, []⟩])
.ret)
(.seq
(.ops [⟨(some 23), none, (.p (.mv (.tmp 0))), 0, []⟩,
⟨(some 24), none, (.h (.call (.c (.fn 40 [] [])) [(.tmp 23), (.c (.str [119, 104, 105, 108, 101]))])), 0, []⟩,
⟨(some 22), none, (.p (.mv (.tmp 24))), 0, []⟩])
(.cond (.tmp 22)
(.seq
(.ops [⟨(some 25), none, (.p (.mv (.tmp 0))), 0, []⟩,
⟨(some 26), none, (.h (.call (.c (.fn 44 [] [])) [(.tmp 25), (.c (.str [40]))])), 0, []⟩])
(.seq
(.ops [⟨(some 27), none, (.p (.mv (.tmp 0))), 0, []⟩,
⟨(some 28), none, (.h (.call (.c (.fn 84 [] [])) [(.tmp 27), (.c (.str [41]))])), 0, []⟩,
⟨(some 29), none, (.p (.mv (.tmp 0))), 0, []⟩,
⟨(some 30), none, (.h (.call (.c (.fn 85 [] [])) [(.tmp 29)])), 0, []⟩,
⟨(some 31), none, (.a (.mkSl [(.str []), (.str []), (.int .i64 0), .nilsl] 4 2 [(0, (4, (.tmp 28))), (4, (4, (.tmp 30)))])), 0, []⟩,
⟨(some 32), none, (.h (.call (.c (.fn 25 [] [])) [(.c (.str [119, 104, 105, 108, 101])), (.tmp 31)])), 0, []⟩,
⟨none, none, (.h (.store 4 (.tmp 2) (.tmp 32))), 0, []⟩])
.ret))
(.seq
(.ops [⟨(some 34), none, (.p (.mv (.tmp 0))), 0, []⟩,
⟨(some 35), none, (.h (.call (.c (.fn 40 [] [])) [(.tmp 34), (.c (.str [102, 111, 114]))])), 0, []⟩,
⟨(some 33), none, (.p (.mv (.tmp 35))), 0, []⟩])
(.cond (.tmp 33)
(.seq
(.ops [⟨(some 36), none, (.p (.mv (.tmp 0))), 0, []⟩,
⟨(some 37), none, (.h (.call (.c (.fn 86 [] [])) [(.tmp 36)])), 0, []⟩,
⟨none, none, (.h (.store 4 (.tmp 2) (.tmp 37))), 0, []⟩])
.ret)
.skip)))))))))))
(.seq
(.ops [⟨(some 38), none, (.p (.mv (.tmp 0))), 0, []⟩,
⟨(some 39), none, (.h (.call (.c (.fn 87 [] [])) [(.tmp 38)])), 0, []⟩,
⟨(some 3), none, (.a (.alloc [(.str []), (.str []), (.int .i64 0), .nilsl])), 0, []⟩,
⟨none, none, (.h (.store 4 (.tmp 3) (.tmp 39))), 0, []⟩])
(.seq
(.ops [⟨(some 40), none, (.p (.mv (.tmp 0))), 0, []⟩,
⟨(some 41), none, (.h (.call (.c (.fn 88 [] [])) [(.tmp 40)])), 0, []⟩])
(.seq
(.ops [⟨(some 42), none, (.r (.load 4 true (.tmp 3))), 0, []⟩,
⟨none, none, (.h (.store 4 (.tmp 2) (.tmp 42))), 0, []⟩])
.ret)))))))⟩
theorem c69 : Mir.compF Tryz.prog Tryz.f69 = some g69 := by kernel_rfl
/-- slices.Contains[[]int,int] -/
def g70 : Mir.Fn := ⟨9, [(.tmp 4)],
(.seq
(.ops [⟨(some 4), none, (.p (.mv (.c (.bool false)))), 0, []⟩])
(.seq
(.ops [⟨(some 5), none, (.p (.mv (.tmp 0))), 0, []⟩,
⟨(some 6), none, (.p (.mv (.tmp 1))), 0, []⟩,
⟨(some 7), none, (.h (.call (.c (.fn 89 [] [])) [(.tmp 5), (.tmp 6)])), 0, []⟩,
⟨(some 8), none, (.p (.bin .geq (.tmp 7) (.c (.int .i64 0)))), 0, []⟩,
⟨(some 4), none, (.p (.mv (.tmp 8))), 0, []⟩])
.ret))⟩
theorem c70 : Mir.compF Tryz.prog Tryz.f70 = some g70 := by kernel_rfl
/-- (*scribe/parse.parser).down -/
def g71 : Mir.Fn := ⟨30, [],
(.seq
(.ops [⟨(some 2), none, (.p (.mv (.tmp 0))), 0, []⟩,
⟨(some 3), none, (.p (.nilchk (.tmp 2))), 0, []⟩,
⟨(some 4), none, (.p (.fieldAt 2 (.tmp 3))), 0, []⟩,
⟨(some 5), none, (.r (.load 1 false (.tmp 4))), 0, []⟩,
⟨(some 6), none, (.p (.bin .add (.tmp 5) (.c (.int .i64 1)))), 0, []⟩,
⟨(some 7), none, (.p (.nilchk (.tmp 2))), 0, []⟩,
⟨(some 8), none, (.p (.fieldAt 2 (.tmp 7))), 0, []⟩,
⟨none, none, (.h (.store 1 (.tmp 8) (.tmp 6))), 0, []⟩])
(.seq
(.ops [⟨(some 9), none, (.p (.mv (.tmp 0))), 0, []⟩,
⟨(some 10), none, (.p (.nilchk (.tmp 9))), 0, []⟩,
⟨(some 11), none, (.p (.fieldAt 2 (.tmp 10))), 0, []⟩,
⟨(some 12), none, (.r (.load 1 false (.tmp 11))), 0, []⟩,
⟨(some 13), none, (.p (.bin .gtr (.tmp 12) (.c (.int .i64 50)))), 0, []⟩,
⟨(some 14), none, (.p (.mv (.tmp 13))), 0, []⟩,
⟨(some 15), (some (14, true)), (.p (.mv (.tmp 0))), 0, []⟩,
⟨(some 16), (some (14, true)), (.p (.nilchk (.tmp 15))), 0, []⟩,
⟨(some 17), (some (14, true)), (.p (.fieldAt 4 (.tmp 16))), 0, []⟩,
⟨(some 18), (some (14, true)), (.r (.load 1 false (.tmp 17))), 0, []⟩,
⟨(some 19), (some (14, true)), (.p (.bin .eql (.tmp 18) (.c (.int .i64 0)))), 0, []⟩,
⟨(some 20), none, (.p (.pick (.tmp 14) (.tmp 19) (.c (.bool false)))), 0, []⟩])
(.cond (.tmp 20)
(.ops [⟨(some 21), none, (.p (.mv (.tmp 0))), 0, []⟩,
⟨(some 22), none, (.p (.mv (.tmp 0))), 0, []⟩,
⟨(some 23), none, (.p (.mv (.tmp 0))), 0, []⟩,
⟨(some 24), none, (.h (.call (.c (.fn 27 [] [])) [(.tmp 23)])), 0, []⟩,
⟨(some 25), none, (.p (.field 2 1 false (.tmp 24))), 0, []⟩,
⟨(some 26), none, (.p (.nilchk (.tmp 21))), 0, []⟩,
⟨(some 27), none, (.p (.fieldAt 4 (.tmp 26))), 0, []⟩,
⟨none, none, (.h (.store 1 (.tmp 27) (.c (.int .i64 14)))), 0, []⟩,
⟨(some 28), none, (.p (.nilchk (.tmp 22))), 0, []⟩,
⟨(some 29), none, (.p (.fieldAt 5 (.tmp 28))), 0, []⟩,
⟨none, none, (.h (.store 1 (.tmp 29) (.tmp 25))), 0, []⟩])
.skip)))⟩
theorem c71 : Mir.compF Tryz.prog Tryz.f71 = some g71 := by kernel_rfl
/-- (*scribe/parse.parser).up -/
def g72 : Mir.Fn := ⟨9, [],
(.ops [⟨(some 2), none, (.p (.mv (.tmp 0))), 0, []⟩,
⟨(some 3), none, (.p (.nilchk (.tmp 2))), 0, []⟩,
⟨(some 4), none, (.p (.fieldAt 2 (.tmp 3))), 0, []⟩,
⟨(some 5), none, (.r (.load 1 false (.tmp 4))), 0, []⟩,
⟨(some 6), none, (.p (.bin .sub (.tmp 5) (.c (.int .i64 1)))), 0, []⟩,
⟨(some 7), none, (.p (.nilchk (.tmp 2))), 0, []⟩,
⟨(some 8), none, (.p (.fieldAt 2 (.tmp 7))), 0, []⟩,
⟨none, none, (.h (.store 1 (.tmp 8) (.tmp 6))), 0, []⟩])⟩
theorem c72 : Mir.compF Tryz.prog Tryz.f72 = some g72 := by kernel_rfl
/-- (*scribe/parse.parser).or -/
def g73 : Mir.Fn := ⟨9, [(.cell 2 4 true)],
(.seq
(.ops [⟨(some 2), none, (.a (.alloc [(.str []), (.str []), (.int .i64 0), .nilsl])), 0, []⟩])
(.seq
(.ops [⟨(some 3), none, (.p (.mv (.tmp 0))), 0, []⟩,
⟨(some 4), none, (.p (.mv (.tmp 0))), 0, []⟩,
⟨(some 5), none, (.p (.mkFn 91 [(.tmp 4)] [])), 0, []⟩,
⟨(some 6), none, (.a .mkMap), 0, []⟩,
⟨none, none, (.h (.mapUpd (.one .str) (.tmp 6) (.c (.str [124, 124])) (.c (.str [111, 114])))), 0, []⟩,
⟨(some 7), none, (.p (.mv (.tmp 6))), 0, []⟩,
⟨(some 8), none, (.h (.call (.c (.fn 90 [] [])) [(.tmp 3), (.tmp 5), (.c (.bool true)), (.tmp 7)])), 0, []⟩,
⟨none, none, (.h (.store 4 (.tmp 2) (.tmp 8))), 0, []⟩])
.ret))⟩
theorem c73 : Mir.compF Tryz.prog Tryz.f73 = some g73 := by kernel_rfl
/-- scribe/parse.place -/
def g74 : Mir.Fn := ⟨7, [(.tmp 2)],
(.seq
(.ops [⟨(some 1), none, (.a (.box (.tmp 0))), 0, []⟩,
⟨(some 2), none, (.p (.mv (.c (.bool false)))), 0, []⟩])
(.seq
(.ops [⟨(some 3), none, (.a (.mkSl [(.str [])] 1 3 [(0, (1, (.c (.str [118, 97, 114])))), (1, (1, (.c (.str [105, 110, 100, 101, 120])))), (2, (1, (.c (.str [102, 105, 101, 108, 100]))))])), 0, []⟩,
⟨(some 4), none, (.p (.fieldAt 0 (.tmp 1))), 0, []⟩,
⟨(some 5), none, (.r (.load 1 false (.tmp 4))), 0, []⟩,
⟨(some 6), none, (.h (.call (.c (.fn 39 [] [])) [(.tmp 3), (.tmp 5)])), 0, []⟩,
⟨(some 2), none, (.p (.mv (.tmp 6))), 0, []⟩])
.ret))⟩
theorem c74 : Mir.compF Tryz.prog Tryz.f74 = some g74 := by kernel_rfl
/-- (*scribe/resolve.resolver).name -/
def g75 : Mir.Fn := ⟨81, [],
(.seq
(.ops [⟨(some 6), none, (.a (.box (.tmp 2))), 0, []⟩])
(.seq
(.seq
(.draw [⟨(some 12), none, (.p (.mv (.tmp 0))), 0, []⟩,
⟨(some 13), none, (.p (.nilchk (.tmp 12))), 1, []⟩,
⟨(some 14), none, (.p (.fieldAt 0 (.tmp 13))), 2, []⟩,
⟨(some 15), none, (.r (.load 1 false (.tmp 14))), 3, []⟩,
⟨(some 16), none, (.p (.fieldAt 1 (.tmp 6))), 4, []⟩,
⟨(some 17), none, (.r (.load 1 false (.tmp 16))), 5, []⟩,
⟨(some 18), none, (.r (.lookup (.one .str) (.int .i64 0) true (.tmp 15) (.tmp 17))), 6, []⟩,
⟨(some 11), none, (.p (.mv (.tmp 18))), 7, []⟩,
⟨(some 19), none, (.p (.ext (.tmp 11) 0)), 8, []⟩,
⟨(some 20), none, (.p (.ext (.tmp 11) 1)), 9, []⟩,
⟨(some 8), none, (.p (.mv (.tmp 19))), 10, []⟩,
⟨(some 9), none, (.p (.mv (.tmp 20))), 11, []⟩])
(.seq
(.ops [⟨(some 21), none, (.p (.mv (.tmp 9))), 0, []⟩])
(.cond (.tmp 21)
(.seq
(.ops [⟨(some 22), none, (.p (.mv (.tmp 0))), 0, []⟩,
⟨(some 23), none, (.p (.fieldAt 2 (.tmp 6))), 0, []⟩,
⟨(some 24), none, (.r (.load 1 false (.tmp 23))), 0, []⟩,
⟨(some 25), none, (.h (.call (.c (.fn 53 [] [])) [(.tmp 22), (.tmp 24), (.c (.int .i64 11))])), 0, []⟩])
.ret)
.skip)))
(.seq
(.ops [⟨(some 26), none, (.p (.mv (.tmp 0))), 0, []⟩,
⟨(some 27), none, (.p (.mv (.tmp 1))), 0, []⟩,
⟨(some 28), none, (.p (.fieldAt 1 (.tmp 6))), 0, []⟩,
⟨(some 29), none, (.r (.load 1 false (.tmp 28))), 0, []⟩,
⟨(some 30), none, (.h (.call (.c (.fn 51 [] [])) [(.tmp 26), (.tmp 27), (.tmp 29)])), 0, []⟩,
⟨(some 10), none, (.a (.alloc [(.int .i64 0), (.str [])])), 0, []⟩,
⟨none, none, (.h (.store 2 (.tmp 10) (.tmp 30))), 0, []⟩])
(.seq
(.seq
(.draw [⟨(some 31), none, (.p (.mv (.tmp 0))), 0, []⟩,
⟨(some 32), none, (.p (.nilchk (.tmp 31))), 1, []⟩,
⟨(some 33), none, (.p (.fieldAt 2 (.tmp 32))), 2, []⟩,
⟨(some 34), none, (.r (.load 1 false (.tmp 33))), 3, []⟩,
⟨(some 35), none, (.r (.load 2 true (.tmp 10))), 4, []⟩,
⟨(some 36), none, (.r (.lookup (.agg [.int, .str]) (.bool false) false (.tmp 34) (.tmp 35))), 5, []⟩,
⟨(some 37), none, (.p (.mv (.tmp 3))), 6, []⟩,
⟨(some 38), none, (.p (.eq .bool true (.tmp 36) (.tmp 37))), 7, []⟩,
⟨(some 39), none, (.p (.mv (.tmp 38))), 8, []⟩,
⟨(some 40), (some (39, false)), (.p (.mv (.tmp 3))), 9, []⟩,
⟨(some 41), (some (39, false)), (.p (.mv (.tmp 40))), 10, []⟩,
⟨(some 42), (some (41, true)), (.p (.fieldAt 0 (.tmp 10))), 11, []⟩,
⟨(some 43), (some (41, true)), (.r (.load 1 false (.tmp 42))), 12, []⟩,
⟨(some 44), (some (41, true)), (.p (.bin .lss (.tmp 43) (.c (.int .i64 0)))), 13, []⟩,
⟨(some 45), (some (39, false)), (.p (.pick (.tmp 41) (.tmp 44) (.c (.bool false)))), 14, []⟩,
⟨(some 46), (some (39, false)), (.p (.mv (.tmp 45))), 15, []⟩,
⟨(some 47), (some (46, true)), (.r (.load 1 false (.glob 0))), 16, []⟩,
⟨(some 48), (some (46, true)), (.p (.fieldAt 1 (.tmp 6))), 17, []⟩,
⟨(some 49), (some (46, true)), (.r (.load 1 false (.tmp 48))), 18, []⟩,
⟨(some 50), (some (46, true)), (.h (.call (.c (.fn 39 [] [])) [(.tmp 47), (.tmp 49)])), 19, []⟩,
⟨(some 51), (some (39, false)), (.p (.pick (.tmp 46) (.tmp 50) (.c (.bool false)))), 20, []⟩,
⟨(some 52), none, (.p (.pick (.tmp 39) (.c (.bool true)) (.tmp 51))), 21, []⟩])
(.cond (.tmp 52)
(.ops [⟨(some 53), none, (.p (.mv (.tmp 0))), 0, []⟩,
⟨(some 54), none, (.p (.fieldAt 2 (.tmp 6))), 0, []⟩,
⟨(some 55), none, (.r (.load 1 false (.tmp 54))), 0, []⟩,
⟨(some 56), none, (.h (.call (.c (.fn 53 [] [])) [(.tmp 53), (.tmp 55), (.c (.int .i64 11))])), 0, []⟩])
.skip))
(.seq
(.draw [⟨(some 57), none, (.p (.fieldAt 0 (.tmp 10))), 0, []⟩,
⟨(some 58), none, (.r (.load 1 false (.tmp 57))), 1, []⟩,
⟨(some 59), none, (.p (.bin .lss (.tmp 58) (.c (.int .i64 0)))), 2, []⟩,
⟨(some 60), none, (.p (.mv (.tmp 59))), 3, []⟩,
⟨(some 61), (some (60, true)), (.p (.mv (.tmp 0))), 4, []⟩,
⟨(some 62), (some (60, true)), (.p (.nilchk (.tmp 61))), 5, []⟩,
⟨(some 63), (some (60, true)), (.p (.fieldAt 3 (.tmp 62))), 6, []⟩,
⟨(some 64), (some (60, true)), (.r (.load 1 false (.tmp 63))), 7, []⟩,
⟨(some 65), (some (60, true)), (.p (.fieldAt 1 (.tmp 6))), 8, []⟩,
⟨(some 66), (some (60, true)), (.r (.load 1 false (.tmp 65))), 9, []⟩,
⟨(some 67), (some (60, true)), (.h (.call (.c (.fn 39 [] [])) [(.tmp 64), (.tmp 66)])), 10, []⟩,
⟨(some 68), (some (60, true)), (.p (.un .not (.tmp 67))), 11, []⟩,
⟨(some 69), none, (.p (.pick (.tmp 60) (.tmp 68) (.c (.bool false)))), 12, []⟩])
(.cond (.tmp 69)
(.draw [⟨(some 70), none, (.p (.mv (.tmp 0))), 0, []⟩,
⟨(some 71), none, (.p (.mv (.tmp 0))), 1, []⟩,
⟨(some 72), none, (.p (.nilchk (.tmp 71))), 2, []⟩,
⟨(some 73), none, (.p (.fieldAt 3 (.tmp 72))), 3, []⟩,
⟨(some 74), none, (.r (.load 1 false (.tmp 73))), 4, []⟩,
⟨(some 75), none, (.p (.fieldAt 1 (.tmp 6))), 5, []⟩,
⟨(some 76), none, (.r (.load 1 false (.tmp 75))), 6, []⟩,
⟨(some 77), none, (.a (.mkSl [(.str [])] 1 1 [(0, (1, (.tmp 76)))])), 7, []⟩,
⟨(some 78), none, (.h (.app 1 16 (.tmp 74) (.tmp 77))), 8, []⟩,
⟨(some 79), none, (.p (.nilchk (.tmp 70))), 9, []⟩,
⟨(some 80), none, (.p (.fieldAt 3 (.tmp 79))), 10, []⟩,
⟨none, none, (.h (.store 1 (.tmp 80) (.tmp 78))), 11, []⟩])
.skip))))))⟩
theorem c75 : Mir.compF Tryz.prog Tryz.f75 = some g75 := by kernel_rfl
/-- (*scribe/resolve.resolver).call -/
def g76 : Mir.Fn := ⟨93, [],
(.seq
(.ops [⟨(some 6), none, (.a (.box (.tmp 2))), 0, []⟩,
⟨(some 7), none, (.a (.box (.tmp 3))), 0, []⟩])
(.seq
(.draw [⟨(some 13), none, (.p (.mv (.tmp 0))), 0, []⟩,
⟨(some 14), none, (.p (.nilchk (.tmp 13))), 1, []⟩,
⟨(some 15), none, (.p (.fieldAt 0 (.tmp 14))), 2, []⟩,
⟨(some 16), none, (.r (.load 1 false (.tmp 15))), 3, []⟩,
⟨(some 17), none, (.p (.fieldAt 1 (.tmp 6))), 4, []⟩,
⟨(some 18), none, (.r (.load 1 false (.tmp 17))), 5, []⟩,
⟨(some 19), none, (.r (.lookup (.one .str) (.int .i64 0) true (.tmp 16) (.tmp 18))), 6, []⟩,
⟨(some 12), none, (.p (.mv (.tmp 19))), 7, []⟩,
⟨(some 20), none, (.p (.ext (.tmp 12) 0)), 8, []⟩,
⟨(some 21), none, (.p (.ext (.tmp 12) 1)), 9, []⟩,
⟨(some 8), none, (.p (.mv (.tmp 20))), 10, []⟩,
⟨(some 9), none, (.p (.mv (.tmp 21))), 11, []⟩])
(.seq
(.seq
(.draw [⟨(some 22), none, (.p (.mv (.tmp 9))), 0, []⟩,
⟨(some 23), none, (.p (.un .not (.tmp 22))), 1, []⟩,
⟨(some 24), none, (.p (.mv (.tmp 23))), 2, []⟩,
⟨(some 25), (some (24, false)), (.p (.fieldAt 3 (.tmp 6))), 3, []⟩,
⟨(some 26), (some (24, false)), (.r (.load 1 false (.tmp 25))), 4, []⟩,
⟨(some 27), (some (24, false)), (.p (.lenSl (.tmp 26))), 5, []⟩,
⟨(some 28), (some (24, false)), (.p (.mv (.tmp 0))), 6, []⟩,
⟨(some 29), (some (24, false)), (.p (.nilchk (.tmp 28))), 7, []⟩,
⟨(some 30), (some (24, false)), (.p (.fieldAt 1 (.tmp 29))), 8, []⟩,
⟨(some 31), (some (24, false)), (.r (.load 1 false (.tmp 30))), 9, []⟩,
⟨(some 32), (some (24, false)), (.p (.nilchk (.tmp 31))), 10, []⟩,
⟨(some 33), (some (24, false)), (.p (.fieldAt 0 (.tmp 32))), 11, []⟩,
⟨(some 34), (some (24, false)), (.r (.load 1 false (.tmp 33))), 12, []⟩,
⟨(some 35), (some (24, false)), (.p (.mv (.tmp 8))), 13, []⟩,
⟨(some 36), (some (24, false)), (.p (.idxSl 7 (.tmp 34) (.tmp 35))), 14, []⟩,
⟨(some 37), (some (24, false)), (.p (.fieldAt 1 (.tmp 36))), 15, []⟩,
⟨(some 38), (some (24, false)), (.r (.load 1 false (.tmp 37))), 16, []⟩,
⟨(some 39), (some (24, false)), (.p (.lenSl (.tmp 38))), 17, []⟩,
⟨(some 40), (some (24, false)), (.p (.bin .gtr (.tmp 27) (.tmp 39))), 18, []⟩,
⟨(some 41), none, (.p (.pick (.tmp 24) (.c (.bool true)) (.tmp 40))), 19, []⟩])
(.cond (.tmp 41)
(.seq
(.ops [⟨(some 42), none, (.p (.mv (.tmp 0))), 0, []⟩,
⟨(some 43), none, (.p (.fieldAt 2 (.tmp 6))), 0, []⟩,
⟨(some 44), none, (.r (.load 1 false (.tmp 43))), 0, []⟩,
⟨(some 45), none, (.h (.call (.c (.fn 53 [] [])) [(.tmp 42), (.tmp 44), (.c (.int .i64 11))])), 0, []⟩])
.ret)
.skip))
(.seq
(.ops [⟨(some 46), none, (.p (.fieldAt 3 (.tmp 6))), 0, []⟩,
⟨(some 47), none, (.r (.load 1 false (.tmp 46))), 0, []⟩,
⟨(some 48), none, (.p (.lenSl (.tmp 47))), 0, []⟩,
⟨(some 49), none, (.p (.mv (.c (.int .i64 0)))), 0, []⟩])
(.block 0 (.loop (.seq
(.ops [⟨(some 50), none, (.p (.bin .lss (.tmp 49) (.tmp 48))), 0, []⟩])
(.seq
(.cond (.tmp 50)
.skip
(.exit 0))
(.seq
(.block 1 (.seq
(.ops [⟨(some 51), none, (.p (.mv (.tmp 49))), 0, []⟩,
⟨(some 52), none, (.p (.idxSl 4 (.tmp 47) (.tmp 49))), 0, []⟩,
⟨(some 53), none, (.r (.load 4 true (.tmp 52))), 0, []⟩,
⟨(some 11), none, (.a (.alloc [(.str []), (.str []), (.int .i64 0), .nilsl])), 0, []⟩,
⟨(some 10), none, (.p (.mv (.tmp 51))), 0, []⟩,
⟨none, none, (.h (.store 4 (.tmp 11) (.tmp 53))), 0, []⟩])
(.seq
(.seq
(.draw [⟨(some 54), none, (.p (.mv (.tmp 0))), 0, []⟩,
⟨(some 55), none, (.p (.nilchk (.tmp 54))), 1, []⟩,
⟨(some 56), none, (.p (.fieldAt 2 (.tmp 55))), 2, []⟩,
⟨(some 57), none, (.r (.load 1 false (.tmp 56))), 3, []⟩,
⟨(some 58), none, (.p (.mv (.tmp 8))), 4, []⟩,
⟨(some 59), none, (.p (.mv (.tmp 0))), 5, []⟩,
⟨(some 60), none, (.p (.nilchk (.tmp 59))), 6, []⟩,
⟨(some 61), none, (.p (.fieldAt 1 (.tmp 60))), 7, []⟩,
⟨(some 62), none, (.r (.load 1 false (.tmp 61))), 8, []⟩,
⟨(some 63), none, (.p (.nilchk (.tmp 62))), 9, []⟩,
⟨(some 64), none, (.p (.fieldAt 0 (.tmp 63))), 10, []⟩,
⟨(some 65), none, (.r (.load 1 false (.tmp 64))), 11, []⟩,
⟨(some 66), none, (.p (.mv (.tmp 8))), 12, []⟩,
⟨(some 67), none, (.p (.idxSl 7 (.tmp 65) (.tmp 66))), 13, []⟩,
⟨(some 68), none, (.p (.fieldAt 1 (.tmp 67))), 14, []⟩,
⟨(some 69), none, (.r (.load 1 false (.tmp 68))), 15, []⟩,
⟨(some 70), none, (.p (.mv (.tmp 10))), 16, []⟩,
⟨(some 71), none, (.p (.idxSl 1 (.tmp 69) (.tmp 70))), 17, []⟩,
⟨(some 72), none, (.r (.load 1 false (.tmp 71))), 18, []⟩,
⟨(some 73), none, (.p (.build [(.int .i64 0), (.str [])] [(0, (1, (.tmp 58))), (1, (1, (.tmp 72)))])), 19, []⟩,
⟨(some 74), none, (.r (.lookup (.agg [.int, .str]) (.bool false) false (.tmp 57) (.tmp 73))), 20, []⟩,
⟨(some 75), none, (.p (.un .not (.tmp 74))), 21, []⟩])
(.cond (.tmp 75)
(.seq
(.ops [⟨(some 76), none, (.p (.mv (.tmp 0))), 0, []⟩,
⟨(some 77), none, (.p (.mv (.tmp 1))), 0, []⟩,
⟨(some 78), none, (.r (.load 4 true (.tmp 11))), 0, []⟩,
⟨(some 79), none, (.r (.load 3 true (.tmp 7))), 0, []⟩,
⟨(some 80), none, (.h (.call (.c (.fn 52 [] [])) [(.tmp 76), (.tmp 77), (.tmp 78), (.tmp 79)])), 0, []⟩])
(.exit 1))
.skip))
(.seq
(.seq
(.ops [⟨(some 81), none, (.p (.fieldAt 0 (.tmp 11))), 0, []⟩,
⟨(some 82), none, (.r (.load 1 false (.tmp 81))), 0, []⟩,
⟨(some 83), none, (.p (.bin .neq (.tmp 82) (.c (.str [118, 97, 114])))), 0, []⟩])
(.cond (.tmp 83)
(.seq
(.ops [⟨(some 84), none, (.p (.mv (.tmp 0))), 0, []⟩,
⟨(some 85), none, (.p (.fieldAt 2 (.tmp 6))), 0, []⟩,
⟨(some 86), none, (.r (.load 1 false (.tmp 85))), 0, []⟩,
⟨(some 87), none, (.h (.call (.c (.fn 53 [] [])) [(.tmp 84), (.tmp 86), (.c (.int .i64 11))])), 0, []⟩])
.ret)
.skip))
(.ops [⟨(some 88), none, (.p (.mv (.tmp 0))), 0, []⟩,
⟨(some 89), none, (.p (.mv (.tmp 1))), 0, []⟩,
⟨(some 90), none, (.r (.load 4 true (.tmp 11))), 0, []⟩,
⟨(some 91), none, (.h (.call (.c (.fn 75 [] [])) [(.tmp 88), (.tmp 89), (.tmp 90), (.c (.bool true))])), 0, []⟩])))))
(.ops [⟨(some 92), none, (.p (.bin .add (.tmp 49) (.c (.int .i64 1)))), 0, []⟩,
⟨(some 49), none, (.p (.mv (.tmp 92))), 0, []⟩]))))))))))⟩
theorem c76 : Mir.compF Tryz.prog Tryz.f76 = some g76 := by kernel_rfl
/-- (*strings.Builder).WriteByte -/
def g77 : Mir.Fn := ⟨17, [(.tmp 4)],
(.seq
(.ops [⟨(some 4), none, (.p (.mv (.c .nilif))), 0, []⟩])
(.seq
(.ops [⟨(some 5), none, (.p (.mv (.tmp 0))), 0, []⟩,
⟨(some 6), none, (.h (.call (.c (.fn 92 [] [])) [(.tmp 5)])), 0, []⟩])
(.seq
(.ops [⟨(some 7), none, (.p (.mv (.tmp 0))), 0, []⟩,
⟨(some 8), none, (.p (.mv (.tmp 0))), 0, []⟩,
⟨(some 9), none, (.p (.nilchk (.tmp 8))), 0, []⟩,
⟨(some 10), none, (.p (.fieldAt 1 (.tmp 9))), 0, []⟩,
⟨(some 11), none, (.r (.load 1 false (.tmp 10))), 0, []⟩,
⟨(some 12), none, (.p (.mv (.tmp 1))), 0, []⟩,
⟨(some 13), none, (.a (.mkSl [(.int .u8 0)] 1 1 [(0, (1, (.tmp 12)))])), 0, []⟩,
⟨(some 14), none, (.h (.app 1 1 (.tmp 11) (.tmp 13))), 0, []⟩,
⟨(some 15), none, (.p (.nilchk (.tmp 7))), 0, []⟩,
⟨(some 16), none, (.p (.fieldAt 1 (.tmp 15))), 0, []⟩,
⟨none, none, (.h (.store 1 (.tmp 16) (.tmp 14))), 0, []⟩])
(.seq
(.ops [⟨(some 4), none, (.p (.mv (.c .nilif))), 0, []⟩])
.ret))))⟩
theorem c77 : Mir.compF Tryz.prog Tryz.f77 = some g77 := by kernel_rfl
/-- (*strings.Builder).WriteString -/
def g78 : Mir.Fn := ⟨19, [(.tmp 4), (.tmp 5)],
(.seq
(.ops [⟨(some 4), none, (.p (.mv (.c (.int .i64 0)))), 0, []⟩,
⟨(some 5), none, (.p (.mv (.c .nilif))), 0, []⟩])
(.seq
(.ops [⟨(some 6), none, (.p (.mv (.tmp 0))), 0, []⟩,
⟨(some 7), none, (.h (.call (.c (.fn 92 [] [])) [(.tmp 6)])), 0, []⟩])
(.seq
(.ops [⟨(some 8), none, (.p (.mv (.tmp 0))), 0, []⟩,
⟨(some 9), none, (.p (.mv (.tmp 0))), 0, []⟩,
⟨(some 10), none, (.p (.nilchk (.tmp 9))), 0, []⟩,
⟨(some 11), none, (.p (.fieldAt 1 (.tmp 10))), 0, []⟩,
⟨(some 12), none, (.r (.load 1 false (.tmp 11))), 0, []⟩,
⟨(some 13), none, (.p (.mv (.tmp 1))), 0, []⟩,
⟨(some 14), none, (.h (.app 1 1 (.tmp 12) (.tmp 13))), 0, []⟩,
⟨(some 15), none, (.p (.nilchk (.tmp 8))), 0, []⟩,
⟨(some 16), none, (.p (.fieldAt 1 (.tmp 15))), 0, []⟩,
⟨none, none, (.h (.store 1 (.tmp 16) (.tmp 14))), 0, []⟩])
(.seq
(.ops [⟨(some 17), none, (.p (.mv (.tmp 1))), 0, []⟩,
⟨(some 18), none, (.p (.lenStr (.tmp 17))), 0, []⟩,
⟨(some 4), none, (.p (.mv (.tmp 18))), 0, []⟩,
⟨(some 5), none, (.p (.mv (.c .nilif))), 0, []⟩])
.ret))))⟩
theorem c78 : Mir.compF Tryz.prog Tryz.f78 = some g78 := by kernel_rfl
/-- strconv.Itoa -/
def g79 : Mir.Fn := ⟨5, [(.tmp 2)],
(.seq
(.ops [⟨(some 2), none, (.p (.mv (.c (.str [])))), 0, []⟩])
(.seq
(.ops [⟨(some 3), none, (.p (.mv (.tmp 0))), 0, []⟩,
⟨(some 4), none, (.h (.call (.c (.fn 93 [] [])) [(.tmp 3)])), 0, []⟩,
⟨(some 2), none, (.p (.mv (.tmp 4))), 0, []⟩])
.ret))⟩
theorem c79 : Mir.compF Tryz.prog Tryz.f79 = some g79 := by kernel_rfl
/-- (*scribe/lex.lexer).word$1 -/
def g80 : Mir.Fn := ⟨9, [(.tmp 2)],
(.seq
(.ops [⟨(some 2), none, (.p (.mv (.c (.bool false)))), 0, []⟩])
(.seq
(.ops [⟨(some 3), none, (.p (.mv (.tmp 0))), 0, []⟩,
⟨(some 4), none, (.h (.call (.c (.fn 61 [] [])) [(.tmp 3)])), 0, []⟩,
⟨(some 5), none, (.p (.mv (.tmp 4))), 0, []⟩,
⟨(some 6), (some (5, false)), (.p (.mv (.tmp 0))), 0, []⟩,
⟨(some 7), (some (5, false)), (.h (.call (.c (.fn 59 [] [])) [(.tmp 6)])), 0, []⟩,
⟨(some 8), none, (.p (.pick (.tmp 5) (.c (.bool true)) (.tmp 7))), 0, []⟩,
⟨(some 2), none, (.p (.mv (.tmp 8))), 0, []⟩])
.ret))⟩
theorem c80 : Mir.compF Tryz.prog Tryz.f80 = some g80 := by kernel_rfl
/-- strings.Contains -/
def g81 : Mir.Fn := ⟨9, [(.tmp 4)],
(.seq
(.ops [⟨(some 4), none, (.p (.mv (.c (.bool false)))), 0, []⟩])
(.seq
(.ops [⟨(some 5), none, (.p (.mv (.tmp 0))), 0, []⟩,
⟨(some 6), none, (.p (.mv (.tmp 1))), 0, []⟩,
⟨(some 7), none, (.h (.call (.c (.fn 94 [] [])) [(.tmp 5), (.tmp 6)])), 0, []⟩,
⟨(some 8), none, (.p (.bin .geq (.tmp 7) (.c (.int .i64 0)))), 0, []⟩,
⟨(some 4), none, (.p (.mv (.tmp 8))), 0, []⟩])
.ret))⟩
theorem c81 : Mir.compF Tryz.prog Tryz.f81 = some g81 := by kernel_rfl
/-- strings.IndexByte -/
def g82 : Mir.Fn := ⟨8, [(.tmp 4)],
(.seq
(.ops [⟨(some 4), none, (.p (.mv (.c (.int .i64 0)))), 0, []⟩])
(.seq
(.ops [⟨(some 5), none, (.p (.mv (.tmp 0))), 0, []⟩,
⟨(some 6), none, (.p (.mv (.tmp 1))), 0, []⟩,
⟨(some 7), none, (.h (.call (.c (.fn 95 [] [])) [(.tmp 5), (.tmp 6)])), 0, []⟩,
⟨(some 4), none, (.p (.mv (.tmp 7))), 0, []⟩])
.ret))⟩
theorem c82 : Mir.compF Tryz.prog Tryz.f82 = some g82 := by kernel_rfl
/-- (*scribe/parse.parser).choice -/
def g83 : Mir.Fn := ⟨42, [(.cell 2 4 true)],
(.seq
(.ops [⟨(some 2), none, (.a (.alloc [(.str []), (.str []), (.int .i64 0), .nilsl])), 0, []⟩])
(.seq
(.ops [⟨(some 5), none, (.p (.mv (.tmp 0))), 0, []⟩,
⟨(some 6), none, (.h (.call (.c (.fn 44 [] [])) [(.tmp 5), (.c (.str [40]))])), 0, []⟩])
(.seq
(.ops [⟨(some 7), none, (.p (.mv (.tmp 0))), 0, []⟩,
⟨(some 8), none, (.h (.call (.c (.fn 84 [] [])) [(.tmp 7), (.c (.str [41]))])), 0, []⟩,
⟨(some 9), none, (.p (.mv (.tmp 0))), 0, []⟩,
⟨(some 10), none, (.h (.call (.c (.fn 85 [] [])) [(.tmp 9)])), 0, []⟩,
⟨(some 11), none, (.a (.mkSl [(.str []), (.str []), (.int .i64 0), .nilsl] 4 2 [(0, (4, (.tmp 8))), (4, (4, (.tmp 10)))])), 0, []⟩,
⟨(some 12), none, (.h (.call (.c (.fn 25 [] [])) [(.c (.str [105, 102])), (.tmp 11)])), 0, []⟩,
⟨(some 3), none, (.a (.alloc [(.str []), (.str []), (.int .i64 0), .nilsl])), 0, []⟩,
⟨none, none, (.h (.store 4 (.tmp 3) (.tmp 12))), 0, []⟩])
(.seq
(.ops [⟨(some 13), none, (.p (.mv (.tmp 0))), 0, []⟩,
⟨(some 14), none, (.p (.nilchk (.tmp 13))), 0, []⟩,
⟨(some 15), none, (.p (.fieldAt 1 (.tmp 14))), 0, []⟩,
⟨(some 16), none, (.r (.load 1 false (.tmp 15))), 0, []⟩,
⟨(some 4), none, (.p (.mv (.tmp 16))), 0, []⟩])
(.seq
(.ops [⟨(some 17), none, (.p (.mv (.tmp 0))), 0, []⟩,
⟨(some 18), none, (.h (.call (.c (.fn 45 [] [])) [(.tmp 17)])), 0, []⟩])
(.seq
(.seq
(.ops [⟨(some 19), none, (.p (.mv (.tmp 0))), 0, []⟩,
⟨(some 20), none, (.h (.call (.c (.fn 40 [] [])) [(.tmp 19), (.c (.str [59]))])), 0, []⟩])
(.cond (.tmp 20)
(.ops [⟨(some 21), none, (.p (.mv (.tmp 0))), 0, []⟩,
⟨(some 22), none, (.h (.call (.c (.fn 45 [] [])) [(.tmp 21)])), 0, []⟩])
.skip))
(.seq
(.seq
(.ops [⟨(some 23), none, (.p (.mv (.tmp 0))), 0, []⟩,
⟨(some 24), none, (.h (.call (.c (.fn 40 [] [])) [(.tmp 23), (.c (.str [101, 108, 115, 101]))])), 0, []⟩])
(.cond (.tmp 24)
(.draw [⟨(some 25), none, (.p (.fieldAt 3 (.tmp 3))), 0, []⟩,
⟨(some 26), none, (.r (.load 1 false (.tmp 25))), 1, []⟩,
⟨(some 27), none, (.p (.mv (.tmp 0))), 2, []⟩,
⟨(some 28), none, (.h (.call (.c (.fn 85 [] [])) [(.tmp 27)])), 3, [1]⟩,
⟨(some 29), none, (.a (.mkSl [(.str []), (.str []), (.int .i64 0), .nilsl] 4 1 [(0, (4, (.tmp 28)))])), 4, []⟩,
⟨(some 30), none, (.h (.app 4 64 (.tmp 26) (.tmp 29))), 5, []⟩,
⟨(some 31), none, (.p (.fieldAt 3 (.tmp 3))), 6, []⟩,
⟨none, none, (.h (.store 1 (.tmp 31) (.tmp 30))), 7, []⟩])
(.seq
(.ops [⟨(some 32), none, (.p (.mv (.tmp 0))), 0, []⟩,
⟨(some 33), none, (.p (.nilchk (.tmp 32))), 0, []⟩,
⟨(some 34), none, (.p (.fieldAt 4 (.tmp 33))), 0, []⟩,
⟨(some 35), none, (.r (.load 1 false (.tmp 34))), 0, []⟩,
⟨(some 36), none, (.p (.bin .eql (.tmp 35) (.c (.int .i64 0)))), 0, []⟩])
(.cond (.tmp 36)
(.ops [⟨(some 37), none, (.p (.mv (.tmp 0))), 0, []⟩,
⟨(some 38), none, (.p (.mv (.tmp 4))), 0, []⟩,
⟨(some 39), none, (.p (.nilchk (.tmp 37))), 0, []⟩,
⟨(some 40), none, (.p (.fieldAt 1 (.tmp 39))), 0, []⟩,
⟨none, none, (.h (.store 1 (.tmp 40) (.tmp 38))), 0, []⟩])
.skip))))
(.seq
(.ops [⟨(some 41), none, (.r (.load 4 true (.tmp 3))), 0, []⟩,
⟨none, none, (.h (.store 4 (.tmp 2) (.tmp 41))), 0, []⟩])
.ret))))))))⟩
theorem c83 : Mir.compF Tryz.prog Tryz.f83 = some g83 := by kernel_rfl
/-- (*scribe/parse.parser).inside -/
def g84 : Mir.Fn := ⟨28, [(.cell 4 4 true)],
(.seq
(.ops [⟨(some 4), none, (.a (.alloc [(.str []), (.str []), (.int .i64 0), .nilsl])), 0, []⟩])
(.seq
(.ops [⟨(some 7), none, (.p (.mv (.tmp 0))), 0, []⟩,
⟨(some 8), none, (.p (.nilchk (.tmp 7))), 0, []⟩,
⟨(some 9), none, (.p (.fieldAt 3 (.tmp 8))), 0, []⟩,
⟨(some 10), none, (.r (.load 1 false (.tmp 9))), 0, []⟩,
⟨(some 5), none, (.p (.mv (.tmp 10))), 0, []⟩])
(.seq
(.ops [⟨(some 11), none, (.p (.mv (.tmp 0))), 0, []⟩,
⟨(some 12), none, (.p (.nilchk (.tmp 11))), 0, []⟩,
⟨(some 13), none, (.p (.fieldAt 3 (.tmp 12))), 0, []⟩,
⟨none, none, (.h (.store 1 (.tmp 13) (.c (.bool false)))), 0, []⟩])
(.seq
(.ops [⟨(some 14), none, (.p (.mv (.tmp 0))), 0, []⟩,
⟨(some 15), none, (.h (.call (.c (.fn 45 [] [])) [(.tmp 14)])), 0, []⟩])
(.seq
(.ops [⟨(some 16), none, (.p (.mv (.tmp 0))), 0, []⟩,
⟨(some 17), none, (.h (.call (.c (.fn 46 [] [])) [(.tmp 16)])), 0, []⟩,
⟨(some 6), none, (.a (.alloc [(.str []), (.str []), (.int .i64 0), .nilsl])), 0, []⟩,
⟨none, none, (.h (.store 4 (.tmp 6) (.tmp 17))), 0, []⟩])
(.seq
(.ops [⟨(some 18), none, (.p (.mv (.tmp 0))), 0, []⟩,
⟨(some 19), none, (.h (.call (.c (.fn 45 [] [])) [(.tmp 18)])), 0, []⟩])
(.seq
(.ops [⟨(some 20), none, (.p (.mv (.tmp 0))), 0, []⟩,
⟨(some 21), none, (.p (.mv (.tmp 1))), 0, []⟩,
⟨(some 22), none, (.h (.call (.c (.fn 44 [] [])) [(.tmp 20), (.tmp 21)])), 0, []⟩])
(.seq
(.ops [⟨(some 23), none, (.p (.mv (.tmp 0))), 0, []⟩,
⟨(some 24), none, (.p (.mv (.tmp 5))), 0, []⟩,
⟨(some 25), none, (.p (.nilchk (.tmp 23))), 0, []⟩,
⟨(some 26), none, (.p (.fieldAt 3 (.tmp 25))), 0, []⟩,
⟨none, none, (.h (.store 1 (.tmp 26) (.tmp 24))), 0, []⟩])
(.seq
(.ops [⟨(some 27), none, (.r (.load 4 true (.tmp 6))), 0, []⟩,
⟨none, none, (.h (.store 4 (.tmp 4) (.tmp 27))), 0, []⟩])
.ret)))))))))⟩
theorem c84 : Mir.compF Tryz.prog Tryz.f84 = some g84 := by kernel_rfl
/-- (*scribe/parse.parser).body -/
def g85 : Mir.Fn := ⟨7, [(.cell 2 4 true)],
(.seq
(.ops [⟨(some 2), none, (.a (.alloc [(.str []), (.str []), (.int .i64 0), .nilsl])), 0, []⟩])
(.seq
(.ops [⟨(some 3), none, (.p (.mv (.tmp 0))), 0, []⟩,
⟨(some 4), none, (.h (.call (.c (.fn 45 [] [])) [(.tmp 3)])), 0, []⟩])
(.seq
(.ops [⟨(some 5), none, (.p (.mv (.tmp 0))), 0, []⟩,
⟨(some 6), none, (.h (.call (.c (.fn 69 [] [])) [(.tmp 5)])), 0, []⟩,
⟨none, none, (.h (.store 4 (.tmp 2) (.tmp 6))), 0, []⟩])
.ret)))⟩
theorem c85 : Mir.compF Tryz.prog Tryz.f85 = some g85 := by kernel_rfl
/-- (*scribe/parse.parser).loop -/
def g86 : Mir.Fn := ⟨105, [(.cell 2 4 true)],
(.seq
(.ops [⟨(some 2), none, (.a (.alloc [(.str []), (.str []), (.int .i64 0), .nilsl])), 0, []⟩])
(.seq
(.ops [⟨(some 7), none, (.p (.mv (.tmp 0))), 0, []⟩,
⟨(some 8), none, (.h (.call (.c (.fn 44 [] [])) [(.tmp 7), (.c (.str [40]))])), 0, []⟩])
(.seq
(.seq
(.ops [⟨(some 9), none, (.p (.mv (.tmp 0))), 0, []⟩,
⟨(some 10), none, (.h (.call (.c (.fn 96 [] [])) [(.tmp 9), (.c (.int .i64 3))])), 0, []⟩,
⟨(some 3), none, (.a (.alloc [(.int .i64 0), (.str []), (.int .i64 0)])), 0, []⟩,
⟨none, none, (.h (.store 3 (.tmp 3) (.tmp 10))), 0, []⟩])
(.seq
(.ops [⟨(some 11), none, (.p (.mv (.tmp 0))), 0, []⟩,
⟨(some 12), none, (.h (.call (.c (.fn 27 [] [])) [(.tmp 11)])), 0, []⟩,
⟨(some 13), none, (.p (.field 0 1 false (.tmp 12))), 0, []⟩,
⟨(some 14), none, (.p (.bin .eql (.tmp 13) (.c (.int .i64 5)))), 0, []⟩,
⟨(some 15), none, (.p (.mv (.tmp 14))), 0, []⟩,
⟨(some 16), (some (15, true)), (.p (.mv (.tmp 0))), 0, []⟩,
⟨(some 17), (some (15, true)), (.h (.call (.c (.fn 96 [] [])) [(.tmp 16), (.c (.int .i64 1))])), 0, []⟩,
⟨(some 18), (some (15, true)), (.p (.field 0 1 false (.tmp 17))), 0, []⟩,
⟨(some 19), (some (15, true)), (.p (.bin .eql (.tmp 18) (.c (.int .i64 7)))), 0, []⟩,
⟨(some 20), none, (.p (.pick (.tmp 15) (.tmp 19) (.c (.bool false)))), 0, []⟩,
⟨(some 21), none, (.p (.mv (.tmp 20))), 0, []⟩,
⟨(some 22), (some (21, true)), (.p (.mv (.tmp 0))), 0, []⟩,
⟨(some 23), (some (21, true)), (.h (.call (.c (.fn 96 [] [])) [(.tmp 22), (.c (.int .i64 1))])), 0, []⟩,
⟨(some 24), (some (21, true)), (.p (.field 1 1 false (.tmp 23))), 0, []⟩,
⟨(some 25), (some (21, true)), (.p (.bin .eql (.tmp 24) (.c (.str [105, 110])))), 0, []⟩,
⟨(some 26), none, (.p (.pick (.tmp 21) (.tmp 25) (.c (.bool false)))), 0, []⟩,
⟨(some 27), none, (.p (.mv (.tmp 26))), 0, []⟩,
⟨(some 28), (some (27, true)), (.p (.mv (.tmp 0))), 0, []⟩,
⟨(some 29), (some (27, true)), (.h (.call (.c (.fn 96 [] [])) [(.tmp 28), (.c (.int .i64 2))])), 0, []⟩,
⟨(some 30), (some (27, true)), (.p (.field 0 1 false (.tmp 29))), 0, []⟩,
⟨(some 31), (some (27, true)), (.p (.bin .eql (.tmp 30) (.c (.int .i64 5)))), 0, []⟩,
⟨(some 32), none, (.p (.pick (.tmp 27) (.tmp 31) (.c (.bool false)))), 0, []⟩,
⟨(some 33), none, (.p (.mv (.tmp 32))), 0, []⟩,
⟨(some 34), (some (33, true)), (.p (.fieldAt 0 (.tmp 3))), 0, []⟩,
⟨(some 35), (some (33, true)), (.r (.load 1 false (.tmp 34))), 0, []⟩,
⟨(some 36), (some (33, true)), (.p (.bin .eql (.tmp 35) (.c (.int .i64 8)))), 0, []⟩,
⟨(some 37), none, (.p (.pick (.tmp 33) (.tmp 36) (.c (.bool false)))), 0, []⟩,
⟨(some 38), none, (.p (.mv (.tmp 37))), 0, []⟩,
⟨(some 39), (some (38, true)), (.p (.fieldAt 1 (.tmp 3))), 0, []⟩,
⟨(some 40), (some (38, true)), (.r (.load 1 false (.tmp 39))), 0, []⟩,
⟨(some 41), (some (38, true)), (.p (.bin .eql (.tmp 40) (.c (.str [41])))), 0, []⟩,
⟨(some 42), none, (.p (.pick (.tmp 38) (.tmp 41) (.c (.bool false)))), 0, []⟩])
(.cond (.tmp 42)
(.seq
(.ops [⟨(some 43), none, (.p (.mv (.tmp 0))), 0, []⟩,
⟨(some 44), none, (.a (.mkSl [(.int .i64 0)] 1 1 [(0, (1, (.c (.int .i64 5))))])), 0, []⟩,
⟨(some 45), none, (.h (.call (.c (.fn 43 [] [])) [(.tmp 43), (.tmp 44)])), 0, []⟩,
⟨(some 4), none, (.a (.alloc [(.int .i64 0), (.str []), (.int .i64 0)])), 0, []⟩,
⟨none, none, (.h (.store 3 (.tmp 4) (.tmp 45))), 0, []⟩])
(.seq
(.ops [⟨(some 46), none, (.p (.mv (.tmp 0))), 0, []⟩,
⟨(some 47), none, (.h (.call (.c (.fn 28 [] [])) [(.tmp 46)])), 0, []⟩])
(.seq
(.ops [⟨(some 48), none, (.p (.mv (.tmp 0))), 0, []⟩,
⟨(some 49), none, (.a (.mkSl [(.int .i64 0)] 1 1 [(0, (1, (.c (.int .i64 5))))])), 0, []⟩,
⟨(some 50), none, (.h (.call (.c (.fn 43 [] [])) [(.tmp 48), (.tmp 49)])), 0, []⟩,
⟨(some 51), none, (.h (.call (.c (.fn 42 [] [])) [(.c (.str [110, 97, 109, 101])), (.tmp 50), (.c .nilsl)])), 0, []⟩,
⟨(some 5), none, (.a (.alloc [(.str []), (.str []), (.int .i64 0), .nilsl])), 0, []⟩,
⟨none, none, (.h (.store 4 (.tmp 5) (.tmp 51))), 0, []⟩])
(.seq
(.ops [⟨(some 52), none, (.p (.mv (.tmp 0))), 0, []⟩,
⟨(some 53), none, (.h (.call (.c (.fn 28 [] [])) [(.tmp 52)])), 0, []⟩])
(.seq
(.draw [⟨(some 54), none, (.r (.load 3 true (.tmp 4))), 0, []⟩,
⟨(some 55), none, (.r (.load 4 true (.tmp 5))), 1, []⟩,
⟨(some 56), none, (.p (.mv (.tmp 0))), 2, []⟩,
⟨(some 57), none, (.h (.call (.c (.fn 85 [] [])) [(.tmp 56)])), 3, [0, 1]⟩,
⟨(some 58), none, (.a (.mkSl [(.str []), (.str []), (.int .i64 0), .nilsl] 4 2 [(0, (4, (.tmp 55))), (4, (4, (.tmp 57)))])), 4, []⟩,
⟨(some 59), none, (.h (.call (.c (.fn 42 [] [])) [(.c (.str [102, 111, 114, 105, 110])), (.tmp 54), (.tmp 58)])), 5, []⟩,
⟨none, none, (.h (.store 4 (.tmp 2) (.tmp 59))), 6, []⟩])
.ret)))))
.skip)))
(.seq
(.ops [⟨(some 60), none, (.h (.call (.c (.fn 25 [] [])) [(.c (.str [110, 111, 110, 101])), (.c .nilsl)])), 0, []⟩,
⟨(some 61), none, (.h (.call (.c (.fn 25 [] [])) [(.c (.str [110, 111, 110, 101])), (.c .nilsl)])), 0, []⟩,
⟨(some 62), none, (.h (.call (.c (.fn 25 [] [])) [(.c (.str [110, 111, 110, 101])), (.c .nilsl)])), 0, []⟩,
⟨(some 63), none, (.p (.build [(.str []), (.str []), (.int .i64 0), .nilsl, (.str []), (.str []), (.int .i64 0), .nilsl, (.str []), (.str []), (.int .i64 0), .nilsl] [(0, (4, (.tmp 60))), (4, (4, (.tmp 61))), (8, (4, (.tmp 62)))])), 0, []⟩,
⟨(some 6), none, (.a (.alloc [(.str []), (.str []), (.int .i64 0), .nilsl, (.str []), (.str []), (.int .i64 0), .nilsl, (.str []), (.str []), (.int .i64 0), .nilsl])), 0, []⟩,
⟨none, none, (.h (.store 12 (.tmp 6) (.tmp 63))), 0, []⟩])
(.seq
(.seq
(.ops [⟨(some 64), none, (.p (.mv (.tmp 0))), 0, []⟩,
⟨(some 65), none, (.a (.mkSl [(.str [])] 1 1 [(0, (1, (.c (.str [59]))))])), 0, []⟩,
⟨(some 66), none, (.h (.call (.c (.fn 26 [] [])) [(.tmp 64), (.tmp 65)])), 0, []⟩,
⟨(some 67), none, (.p (.un .not (.tmp 66))), 0, []⟩])
(.cond (.tmp 67)
(.ops [⟨(some 68), none, (.p (.mv (.tmp 0))), 0, []⟩,
⟨(some 69), none, (.h (.call (.c (.fn 87 [] [])) [(.tmp 68)])), 0, []⟩,
⟨(some 70), none, (.p (.idxArr 3 4 (.tmp 6) (.c (.int .i64 0)))), 0, []⟩,
⟨none, none, (.h (.store 4 (.tmp 70) (.tmp 69))), 0, []⟩])
.skip))
(.seq
(.ops [⟨(some 71), none, (.p (.mv (.tmp 0))), 0, []⟩,
⟨(some 72), none, (.h (.call (.c (.fn 44 [] [])) [(.tmp 71), (.c (.str [59]))])), 0, []⟩])
(.seq
(.ops [⟨(some 73), none, (.p (.mv (.tmp 0))), 0, []⟩,
⟨(some 74), none, (.h (.call (.c (.fn 45 [] [])) [(.tmp 73)])), 0, []⟩])
(.seq
(.seq
(.ops [⟨(some 75), none, (.p (.mv (.tmp 0))), 0, []⟩,
⟨(some 76), none, (.a (.mkSl [(.str [])] 1 1 [(0, (1, (.c (.str [59]))))])), 0, []⟩,
⟨(some 77), none, (.h (.call (.c (.fn 26 [] [])) [(.tmp 75), (.tmp 76)])), 0, []⟩,
⟨(some 78), none, (.p (.un .not (.tmp 77))), 0, []⟩])
(.cond (.tmp 78)
(.ops [⟨(some 79), none, (.p (.mv (.tmp 0))), 0, []⟩,
⟨(some 80), none, (.h (.call (.c (.fn 46 [] [])) [(.tmp 79)])), 0, []⟩,
⟨(some 81), none, (.p (.idxArr 3 4 (.tmp 6) (.c (.int .i64 1)))), 0, []⟩,
⟨none, none, (.h (.store 4 (.tmp 81) (.tmp 80))), 0, []⟩])
.skip))
(.seq
(.ops [⟨(some 82), none, (.p (.mv (.tmp 0))), 0, []⟩,
⟨(some 83), none, (.h (.call (.c (.fn 44 [] [])) [(.tmp 82), (.c (.str [59]))])), 0, []⟩])
(.seq
(.ops [⟨(some 84), none, (.p (.mv (.tmp 0))), 0, []⟩,
⟨(some 85), none, (.h (.call (.c (.fn 45 [] [])) [(.tmp 84)])), 0, []⟩])
(.seq
(.seq
(.ops [⟨(some 86), none, (.p (.mv (.tmp 0))), 0, []⟩,
⟨(some 87), none, (.a (.mkSl [(.str [])] 1 1 [(0, (1, (.c (.str [41]))))])), 0, []⟩,
⟨(some 88), none, (.h (.call (.c (.fn 26 [] [])) [(.tmp 86), (.tmp 87)])), 0, []⟩,
⟨(some 89), none, (.p (.un .not (.tmp 88))), 0, []⟩])
(.cond (.tmp 89)
(.ops [⟨(some 90), none, (.p (.mv (.tmp 0))), 0, []⟩,
⟨(some 91), none, (.h (.call (.c (.fn 87 [] [])) [(.tmp 90)])), 0, []⟩,
⟨(some 92), none, (.p (.idxArr 3 4 (.tmp 6) (.c (.int .i64 2)))), 0, []⟩,
⟨none, none, (.h (.store 4 (.tmp 92) (.tmp 91))), 0, []⟩])
.skip))
(.seq
(.ops [⟨(some 93), none, (.p (.mv (.tmp 0))), 0, []⟩,
⟨(some 94), none, (.h (.call (.c (.fn 44 [] [])) [(.tmp 93), (.c (.str [41]))])), 0, []⟩])
(.seq
(.draw [⟨(some 95), none, (.p (.idxArr 3 4 (.tmp 6) (.c (.int .i64 0)))), 0, []⟩,
⟨(some 96), none, (.r (.load 4 true (.tmp 95))), 1, []⟩,
⟨(some 97), none, (.p (.idxArr 3 4 (.tmp 6) (.c (.int .i64 1)))), 2, []⟩,
⟨(some 98), none, (.r (.load 4 true (.tmp 97))), 3, []⟩,
⟨(some 99), none, (.p (.idxArr 3 4 (.tmp 6) (.c (.int .i64 2)))), 4, []⟩,
⟨(some 100), none, (.r (.load 4 true (.tmp 99))), 5, []⟩,
⟨(some 101), none, (.p (.mv (.tmp 0))), 6, []⟩,
⟨(some 102), none, (.h (.call (.c (.fn 85 [] [])) [(.tmp 101)])), 7, [1, 3, 5]⟩,
⟨(some 103), none, (.a (.mkSl [(.str []), (.str []), (.int .i64 0), .nilsl] 4 4 [(0, (4, (.tmp 96))), (4, (4, (.tmp 98))), (8, (4, (.tmp 100))), (12, (4, (.tmp 102)))])), 8, []⟩,
⟨(some 104), none, (.h (.call (.c (.fn 25 [] [])) [(.c (.str [102, 111, 114])), (.tmp 103)])), 9, []⟩,
⟨none, none, (.h (.store 4 (.tmp 2) (.tmp 104))), 10, []⟩])
.ret)))))))))))))⟩
theorem c86 : Mir.compF Tryz.prog Tryz.f86 = some g86 := by kernel_rfl
/-- (*scribe/parse.parser).simple -/
def g87 : Mir.Fn := ⟨78, [(.cell 2 4 true)],
(.seq
(.ops [⟨(some 2), none, (.a (.alloc [(.str []), (.str []), (.int .i64 0), .nilsl])), 0, []⟩])
(.seq
(.ops [⟨(some 6), none, (.p (.mv (.tmp 0))), 0, []⟩,
⟨(some 7), none, (.h (.call (.c (.fn 27 [] [])) [(.tmp 6)])), 0, []⟩,
⟨(some 3), none, (.a (.alloc [(.int .i64 0), (.str []), (.int .i64 0)])), 0, []⟩,
⟨none, none, (.h (.store 3 (.tmp 3) (.tmp 7))), 0, []⟩])
(.seq
(.seq
(.ops [⟨(some 8), none, (.p (.fieldAt 0 (.tmp 3))), 0, []⟩,
⟨(some 9), none, (.r (.load 1 false (.tmp 8))), 0, []⟩,
⟨(some 10), none, (.p (.bin .neq (.tmp 9) (.c (.int .i64 7)))), 0, []⟩])
(.cond (.tmp 10)
(.seq
(.ops [⟨(some 11), none, (.p (.mv (.tmp 0))), 0, []⟩,
⟨(some 12), none, (.h (.call (.c (.fn 46 [] [])) [(.tmp 11)])), 0, []⟩,
⟨(some 13), none, (.a (.mkSl [(.str []), (.str []), (.int .i64 0), .nilsl] 4 1 [(0, (4, (.tmp 12)))])), 0, []⟩,
⟨(some 14), none, (.h (.call (.c (.fn 25 [] [])) [(.c (.str [101, 120, 112, 114])), (.tmp 13)])), 0, []⟩,
⟨none, none, (.h (.store 4 (.tmp 2) (.tmp 14))), 0, []⟩])
.ret)
.skip))
(.seq
(.seq
(.ops [⟨(some 15), none, (.p (.fieldAt 1 (.tmp 3))), 0, []⟩,
⟨(some 16), none, (.r (.load 1 false (.tmp 15))), 0, []⟩])
(.block 0 (.seq
(.seq
(.ops [⟨(some 18), none, (.p (.bin .eql (.tmp 16) (.c (.str [98, 114, 101, 97, 107])))), 0, []⟩,
⟨(some 17), none, (.p (.mv (.tmp 18))), 0, []⟩])
(.cond (.tmp 17)
.skip
(.seq
(.ops [⟨(some 19), none, (.p (.bin .eql (.tmp 16) (.c (.str [99, 111, 110, 116, 105, 110, 117, 101])))), 0, []⟩,
⟨(some 17), none, (.p (.mv (.tmp 19))), 0, []⟩])
(.cond (.tmp 17)
.skip
(.ops [⟨(some 20), none, (.p (.bin .eql (.tmp 16) (.c (.str [110, 101, 120, 116])))), 0, []⟩,
⟨(some 17), none, (.p (.mv (.tmp 20))), 0, []⟩])))))
(.cond (.tmp 17)
(.seq
(.ops [⟨(some 21), none, (.p (.mv (.tmp 0))), 0, []⟩,
⟨(some 22), none, (.h (.call (.c (.fn 28 [] [])) [(.tmp 21)])), 0, []⟩])
(.seq
(.ops [⟨(some 23), none, (.p (.fieldAt 1 (.tmp 3))), 0, []⟩,
⟨(some 24), none, (.r (.load 1 false (.tmp 23))), 0, []⟩,
⟨(some 25), none, (.p (.fieldAt 2 (.tmp 3))), 0, []⟩,
⟨(some 26), none, (.r (.load 1 false (.tmp 25))), 0, []⟩,
⟨(some 27), none, (.p (.build [(.str []), (.str []), (.int .i64 0), .nilsl] [(0, (1, (.tmp 24))), (2, (1, (.tmp 26)))])), 0, []⟩,
⟨none, none, (.h (.store 4 (.tmp 2) (.tmp 27))), 0, []⟩])
.ret))
(.seq
(.seq
(.ops [⟨(some 29), none, (.p (.bin .eql (.tmp 16) (.c (.str [101, 120, 105, 116])))), 0, []⟩,
⟨(some 28), none, (.p (.mv (.tmp 29))), 0, []⟩])
(.cond (.tmp 28)
.skip
(.ops [⟨(some 30), none, (.p (.bin .eql (.tmp 16) (.c (.str [114, 101, 116, 117, 114, 110])))), 0, []⟩,
⟨(some 28), none, (.p (.mv (.tmp 30))), 0, []⟩])))
(.cond (.tmp 28)
(.seq
(.ops [⟨(some 31), none, (.p (.mv (.tmp 0))), 0, []⟩,
⟨(some 32), none, (.h (.call (.c (.fn 28 [] [])) [(.tmp 31)])), 0, []⟩])
(.seq
(.ops [⟨(some 33), none, (.p (.fieldAt 1 (.tmp 3))), 0, []⟩,
⟨(some 34), none, (.r (.load 1 false (.tmp 33))), 0, []⟩,
⟨(some 35), none, (.p (.fieldAt 2 (.tmp 3))), 0, []⟩,
⟨(some 36), none, (.r (.load 1 false (.tmp 35))), 0, []⟩,
⟨(some 37), none, (.p (.build [(.str []), (.str []), (.int .i64 0), .nilsl] [(0, (1, (.tmp 34))), (2, (1, (.tmp 36)))])), 0, []⟩,
⟨(some 4), none, (.a (.alloc [(.str []), (.str []), (.int .i64 0), .nilsl])), 0, []⟩,
⟨none, none, (.h (.store 4 (.tmp 4) (.tmp 37))), 0, []⟩])
(.seq
(.seq
(.ops [⟨(some 38), none, (.p (.mv (.tmp 0))), 0, []⟩,
⟨(some 39), none, (.h (.call (.c (.fn 97 [] [])) [(.tmp 38)])), 0, []⟩,
⟨(some 40), none, (.p (.un .not (.tmp 39))), 0, []⟩])
(.cond (.tmp 40)
(.ops [⟨(some 41), none, (.p (.mv (.tmp 0))), 0, []⟩,
⟨(some 42), none, (.h (.call (.c (.fn 46 [] [])) [(.tmp 41)])), 0, []⟩,
⟨(some 43), none, (.a (.mkSl [(.str []), (.str []), (.int .i64 0), .nilsl] 4 1 [(0, (4, (.tmp 42)))])), 0, []⟩,
⟨(some 44), none, (.p (.fieldAt 3 (.tmp 4))), 0, []⟩,
⟨none, none, (.h (.store 1 (.tmp 44) (.tmp 43))), 0, []⟩])
.skip))
(.seq
(.ops [⟨(some 45), none, (.r (.load 4 true (.tmp 4))), 0, []⟩,
⟨none, none, (.h (.store 4 (.tmp 2) (.tmp 45))), 0, []⟩])
.ret))))
(.seq
(.ops [⟨(some 47), none, (.p (.bin .eql (.tmp 16) (.c (.str [100, 101, 108, 101, 116, 101])))), 0, []⟩,
⟨(some 46), none, (.p (.mv (.tmp 47))), 0, []⟩])
(.cond (.tmp 46)
(.seq
(.ops [⟨(some 48), none, (.p (.mv (.tmp 0))), 0, []⟩,
⟨(some 49), none, (.h (.call (.c (.fn 28 [] [])) [(.tmp 48)])), 0, []⟩])
(.seq
(.ops [⟨(some 50), none, (.p (.mv (.tmp 0))), 0, []⟩,
⟨(some 51), none, (.a (.mkSl [(.int .i64 0)] 1 1 [(0, (1, (.c (.int .i64 5))))])), 0, []⟩,
⟨(some 52), none, (.h (.call (.c (.fn 43 [] [])) [(.tmp 50), (.tmp 51)])), 0, []⟩,
⟨(some 5), none, (.a (.alloc [(.int .i64 0), (.str []), (.int .i64 0)])), 0, []⟩,
⟨none, none, (.h (.store 3 (.tmp 5) (.tmp 52))), 0, []⟩])
(.seq
(.seq
(.ops [⟨(some 53), none, (.p (.mv (.tmp 0))), 0, []⟩,
⟨(some 54), none, (.h (.call (.c (.fn 40 [] [])) [(.tmp 53), (.c (.str [91]))])), 0, []⟩])
(.cond (.tmp 54)
(.seq
(.draw [⟨(some 55), none, (.r (.load 3 true (.tmp 5))), 0, []⟩,
⟨(some 56), none, (.p (.mv (.tmp 0))), 1, []⟩,
⟨(some 57), none, (.h (.call (.c (.fn 84 [] [])) [(.tmp 56), (.c (.str [93]))])), 2, [0]⟩,
⟨(some 58), none, (.a (.mkSl [(.str []), (.str []), (.int .i64 0), .nilsl] 4 1 [(0, (4, (.tmp 57)))])), 3, []⟩,
⟨(some 59), none, (.h (.call (.c (.fn 42 [] [])) [(.c (.str [105, 110, 100, 101, 120])), (.tmp 55), (.tmp 58)])), 4, []⟩,
⟨(some 60), none, (.a (.mkSl [(.str []), (.str []), (.int .i64 0), .nilsl] 4 1 [(0, (4, (.tmp 59)))])), 5, []⟩,
⟨(some 61), none, (.h (.call (.c (.fn 25 [] [])) [(.c (.str [100, 101, 108, 101, 116, 101])), (.tmp 60)])), 6, []⟩,
⟨none, none, (.h (.store 4 (.tmp 2) (.tmp 61))), 7, []⟩])
.ret)
.skip))
(.seq
(.ops [⟨(some 62), none, (.r (.load 3 true (.tmp 5))), 0, []⟩,
⟨(some 63), none, (.h (.call (.c (.fn 42 [] [])) [(.c (.str [110, 97, 109, 101])), (.tmp 62), (.c .nilsl)])), 0, []⟩,
⟨(some 64), none, (.a (.mkSl [(.str []), (.str []), (.int .i64 0), .nilsl] 4 1 [(0, (4, (.tmp 63)))])), 0, []⟩,
⟨(some 65), none, (.h (.call (.c (.fn 25 [] [])) [(.c (.str [100, 101, 108, 101, 116, 101])), (.tmp 64)])), 0, []⟩,
⟨none, none, (.h (.store 4 (.tmp 2) (.tmp 65))), 0, []⟩])
.ret))))
(.seq
(.seq
(.ops [⟨(some 67), none, (.p (.bin .eql (.tmp 16) (.c (.str [112, 114, 105, 110, 116])))), 0, []⟩,
⟨(some 66), none, (.p (.mv (.tmp 67))), 0, []⟩])
(.cond (.tmp 66)
.skip
(.ops [⟨(some 68), none, (.p (.bin .eql (.tmp 16) (.c (.str [112, 114, 105, 110, 116, 102])))), 0, []⟩,
⟨(some 66), none, (.p (.mv (.tmp 68))), 0, []⟩])))
(.cond (.tmp 66)
(.seq
(.ops [⟨(some 69), none, (.p (.mv (.tmp 0))), 0, []⟩,
⟨(some 70), none, (.h (.call (.c (.fn 28 [] [])) [(.tmp 69)])), 0, []⟩])
(.seq
(.ops [⟨(some 71), none, (.p (.mv (.tmp 0))), 0, []⟩,
⟨(some 72), none, (.p (.fieldAt 1 (.tmp 3))), 0, []⟩,
⟨(some 73), none, (.r (.load 1 false (.tmp 72))), 0, []⟩,
⟨(some 74), none, (.h (.call (.c (.fn 98 [] [])) [(.tmp 71), (.tmp 73)])), 0, []⟩,
⟨none, none, (.h (.store 4 (.tmp 2) (.tmp 74))), 0, []⟩])
.ret))
.skip))))))))))
(.seq
(.ops [⟨(some 75), none, (.p (.mv (.tmp 0))), 0, []⟩,
⟨(some 76), none, (.h (.call (.c (.fn 47 [] [])) [(.tmp 75)])), 0, []⟩])
(.seq
(.ops [⟨(some 77), none, (.p (.build [(.str []), (.str []), (.int .i64 0), .nilsl] [])), 0, []⟩,
⟨none, none, (.h (.store 4 (.tmp 2) (.tmp 77))), 0, []⟩])
.ret))))))⟩
theorem c87 : Mir.compF Tryz.prog Tryz.f87 = some g87 := by kernel_rfl
/-- (*scribe/parse.parser).end -/
def g88 : Mir.Fn := ⟨17, [],
(.block 0 (.seq
(.seq
(.ops [⟨(some 5), none, (.p (.mv (.tmp 0))), 0, []⟩,
⟨(some 6), none, (.h (.call (.c (.fn 40 [] [])) [(.tmp 5), (.c (.str [59]))])), 0, []⟩,
⟨(some 4), none, (.p (.mv (.tmp 6))), 0, []⟩])
(.cond (.tmp 4)
.skip
(.ops [⟨(some 7), none, (.p (.mv (.tmp 0))), 0, []⟩,
⟨(some 8), none, (.a (.mkSl [(.str [])] 1 1 [(0, (1, (.c (.str [125]))))])), 0, []⟩,
⟨(some 9), none, (.h (.call (.c (.fn 26 [] [])) [(.tmp 7), (.tmp 8)])), 0, []⟩,
⟨(some 4), none, (.p (.mv (.tmp 9))), 0, []⟩])))
(.cond (.tmp 4)
.skip
(.seq
(.ops [⟨(some 11), none, (.p (.mv (.tmp 0))), 0, []⟩,
⟨(some 12), none, (.h (.call (.c (.fn 27 [] [])) [(.tmp 11)])), 0, []⟩,
⟨(some 13), none, (.p (.field 0 1 false (.tmp 12))), 0, []⟩,
⟨(some 14), none, (.p (.bin .eql (.tmp 13) (.c (.int .i64 1)))), 0, []⟩,
⟨(some 10), none, (.p (.mv (.tmp 14))), 0, []⟩])
(.cond (.tmp 10)
(.ops [⟨(some 15), none, (.p (.mv (.tmp 0))), 0, []⟩,
⟨(some 16), none, (.h (.call (.c (.fn 28 [] [])) [(.tmp 15)])), 0, []⟩])
(.ops [⟨(some 2), none, (.p (.mv (.tmp 0))), 0, []⟩,
⟨(some 3), none, (.h (.call (.c (.fn 47 [] [])) [(.tmp 2)])), 0, []⟩]))))))⟩
theorem c88 : Mir.compF Tryz.prog Tryz.f88 = some g88 := by kernel_rfl
/-- slices.Index[[]int,int] -/
def g89 : Mir.Fn := ⟨19, [(.tmp 4)],
(.seq
(.ops [⟨(some 4), none, (.p (.mv (.c (.int .i64 0)))), 0, []⟩])
(.seq
(.seq
(.ops [⟨(some 6), none, (.p (.mv (.tmp 0))), 0, []⟩,
⟨(some 7), none, (.p (.lenSl (.tmp 6))), 0, []⟩,
⟨(some 8), none, (.p (.mv (.c (.int .i64 0)))), 0, []⟩])
(.block 0 (.loop (.seq
(.ops [⟨(some 9), none, (.p (.bin .lss (.tmp 8) (.tmp 7))), 0, []⟩])
(.seq
(.cond (.tmp 9)
.skip
(.exit 0))
(.seq
(.block 1 (.seq
(.ops [⟨(some 10), none, (.p (.mv (.tmp 8))), 0, []⟩,
⟨(some 5), none, (.p (.mv (.tmp 10))), 0, []⟩])
(.seq
(.ops [⟨(some 11), none, (.p (.mv (.tmp 1))), 0, []⟩,
⟨(some 12), none, (.p (.mv (.tmp 0))), 0, []⟩,
⟨(some 13), none, (.p (.mv (.tmp 5))), 0, []⟩,
⟨(some 14), none, (.p (.idxSl 1 (.tmp 12) (.tmp 13))), 0, []⟩,
⟨(some 15), none, (.r (.load 1 false (.tmp 14))), 0, []⟩,
⟨(some 16), none, (.p (.bin .eql (.tmp 11) (.tmp 15))), 0, []⟩])
(.cond (.tmp 16)
(.seq
(.ops [⟨(some 17), none, (.p (.mv (.tmp 5))), 0, []⟩,
⟨(some 4), none, (.p (.mv (.tmp 17))), 0, []⟩])
.ret)
.skip))))
(.ops [⟨(some 18), none, (.p (.bin .add (.tmp 8) (.c (.int .i64 1)))), 0, []⟩,
⟨(some 8), none, (.p (.mv (.tmp 18))), 0, []⟩])))))))
(.seq
(.ops [⟨(some 4), none, (.p (.mv (.c (.int .i64 (-1))))), 0, []⟩])
.ret)))⟩
theorem c89 : Mir.compF Tryz.prog Tryz.f89 = some g89 := by kernel_rfl
/-- (*scribe/parse.parser).chain -/
def g90 : Mir.Fn := ⟨39, [(.cell 8 4 true)],
(.seq
(.ops [⟨(some 8), none, (.a (.alloc [(.str []), (.str []), (.int .i64 0), .nilsl])), 0, []⟩])
(.seq
(.ops [⟨(some 12), none, (.p (.mv (.tmp 1))), 0, []⟩,
⟨(some 13), none, (.h (.call (.tmp 12) [])), 0, []⟩,
⟨(some 9), none, (.a (.alloc [(.str []), (.str []), (.int .i64 0), .nilsl])), 0, []⟩,
⟨none, none, (.h (.store 4 (.tmp 9) (.tmp 13))), 0, []⟩])
(.block 0 (.loop (.block 1 (.seq
(.ops [⟨(some 14), none, (.p (.mv (.tmp 0))), 0, []⟩,
⟨(some 15), none, (.h (.call (.c (.fn 27 [] [])) [(.tmp 14)])), 0, []⟩,
⟨(some 10), none, (.a (.alloc [(.int .i64 0), (.str []), (.int .i64 0)])), 0, []⟩,
⟨none, none, (.h (.store 3 (.tmp 10) (.tmp 15))), 0, []⟩])
(.seq
(.ops [⟨(some 16), none, (.p (.mv (.tmp 3))), 0, []⟩,
⟨(some 17), none, (.p (.fieldAt 1 (.tmp 10))), 0, []⟩,
⟨(some 18), none, (.r (.load 1 false (.tmp 17))), 0, []⟩,
⟨(some 19), none, (.r (.lookup (.one .str) (.str []) false (.tmp 16) (.tmp 18))), 0, []⟩,
⟨(some 11), none, (.p (.mv (.tmp 19))), 0, []⟩])
(.seq
(.seq
(.ops [⟨(some 20), none, (.p (.fieldAt 0 (.tmp 10))), 0, []⟩,
⟨(some 21), none, (.r (.load 1 false (.tmp 20))), 0, []⟩,
⟨(some 22), none, (.p (.bin .neq (.tmp 21) (.c (.int .i64 8)))), 0, []⟩,
⟨(some 23), none, (.p (.mv (.tmp 22))), 0, []⟩,
⟨(some 24), (some (23, false)), (.p (.mv (.tmp 11))), 0, []⟩,
⟨(some 25), (some (23, false)), (.p (.bin .eql (.tmp 24) (.c (.str [])))), 0, []⟩,
⟨(some 26), none, (.p (.pick (.tmp 23) (.c (.bool true)) (.tmp 25))), 0, []⟩])
(.cond (.tmp 26)
(.seq
(.ops [⟨(some 27), none, (.r (.load 4 true (.tmp 9))), 0, []⟩,
⟨none, none, (.h (.store 4 (.tmp 8) (.tmp 27))), 0, []⟩])
.ret)
.skip))
(.seq
(.ops [⟨(some 28), none, (.p (.mv (.tmp 0))), 0, []⟩,
⟨(some 29), none, (.h (.call (.c (.fn 28 [] [])) [(.tmp 28)])), 0, []⟩])
(.seq
(.seq
(.ops [⟨(some 30), none, (.p (.mv (.tmp 2))), 0, []⟩])
(.cond (.tmp 30)
(.ops [⟨(some 31), none, (.p (.mv (.tmp 0))), 0, []⟩,
⟨(some 32), none, (.h (.call (.c (.fn 45 [] [])) [(.tmp 31)])), 0, []⟩])
.skip))
(.draw [⟨(some 33), none, (.p (.mv (.tmp 11))), 0, []⟩,
⟨(some 34), none, (.r (.load 4 true (.tmp 9))), 1, []⟩,
⟨(some 35), none, (.p (.mv (.tmp 1))), 2, []⟩,
⟨(some 36), none, (.h (.call (.tmp 35) [])), 3, [1]⟩,
⟨(some 37), none, (.a (.mkSl [(.str []), (.str []), (.int .i64 0), .nilsl] 4 2 [(0, (4, (.tmp 34))), (4, (4, (.tmp 36)))])), 4, []⟩,
⟨(some 38), none, (.h (.call (.c (.fn 25 [] [])) [(.tmp 33), (.tmp 37)])), 5, []⟩,
⟨none, none, (.h (.store 4 (.tmp 9) (.tmp 38))), 6, []⟩])))))))))))⟩
theorem c90 : Mir.compF Tryz.prog Tryz.f90 = some g90 := by kernel_rfl
/-- (*scribe/parse.parser).and -/
def g91 : Mir.Fn := ⟨9, [(.cell 2 4 true)],
(.seq
(.ops [⟨(some 2), none, (.a (.alloc [(.str []), (.str []), (.int .i64 0), .nilsl])), 0, []⟩])
(.seq
(.ops [⟨(some 3), none, (.p (.mv (.tmp 0))), 0, []⟩,
⟨(some 4), none, (.p (.mv (.tmp 0))), 0, []⟩,
⟨(some 5), none, (.p (.mkFn 99 [(.tmp 4)] [])), 0, []⟩,
⟨(some 6), none, (.a .mkMap), 0, []⟩,
⟨none, none, (.h (.mapUpd (.one .str) (.tmp 6) (.c (.str [38, 38])) (.c (.str [97, 110, 100])))), 0, []⟩,
⟨(some 7), none, (.p (.mv (.tmp 6))), 0, []⟩,
⟨(some 8), none, (.h (.call (.c (.fn 90 [] [])) [(.tmp 3), (.tmp 5), (.c (.bool true)), (.tmp 7)])), 0, []⟩,
⟨none, none, (.h (.store 4 (.tmp 2) (.tmp 8))), 0, []⟩])
.ret))⟩
theorem c91 : Mir.compF Tryz.prog Tryz.f91 = some g91 := by kernel_rfl
/-- (*strings.Builder).copyCheck -/
def g92 : Mir.Fn := ⟨20, [],
(.seq
(.ops [⟨(some 2), none, (.p (.mv (.tmp 0))), 0, []⟩,
⟨(some 3), none, (.p (.nilchk (.tmp 2))), 0, []⟩,
⟨(some 4), none, (.p (.fieldAt 0 (.tmp 3))), 0, []⟩,
⟨(some 5), none, (.r (.load 1 false (.tmp 4))), 0, []⟩,
⟨(some 6), none, (.p (.eq .ptr false (.tmp 5) (.c .nilptr))), 0, []⟩])
(.cond (.tmp 6)
(.ops [⟨(some 7), none, (.p (.mv (.tmp 0))), 0, []⟩,
⟨(some 8), none, (.p (.mv (.tmp 0))), 0, []⟩,
⟨(some 9), none, (.r (.uns (.tmp 8))), 0, []⟩,
⟨(some 10), none, (.p (.mv (.tmp 9))), 0, []⟩,
⟨(some 11), none, (.r (.uns (.tmp 10))), 0, []⟩,
⟨(some 12), none, (.p (.nilchk (.tmp 7))), 0, []⟩,
⟨(some 13), none, (.p (.fieldAt 0 (.tmp 12))), 0, []⟩,
⟨none, none, (.h (.store 1 (.tmp 13) (.tmp 11))), 0, []⟩])
(.seq
(.ops [⟨(some 14), none, (.p (.mv (.tmp 0))), 0, []⟩,
⟨(some 15), none, (.p (.nilchk (.tmp 14))), 0, []⟩,
⟨(some 16), none, (.p (.fieldAt 0 (.tmp 15))), 0, []⟩,
⟨(some 17), none, (.r (.load 1 false (.tmp 16))), 0, []⟩,
⟨(some 18), none, (.p (.mv (.tmp 0))), 0, []⟩,
⟨(some 19), none, (.p (.eq .ptr true (.tmp 17) (.tmp 18))), 0, []⟩])
(.cond (.tmp 19)
(.cond (.c .undef)
.skip
.skip)
.skip))))⟩
theorem c92 : Mir.compF Tryz.prog Tryz.f92 = some g92 := by kernel_rfl
/-- internal/strconv.Itoa -/
def g93 : Mir.Fn := ⟨5, [(.tmp 2)],
(.seq
(.ops [⟨(some 2), none, (.p (.mv (.c (.str [])))), 0, []⟩])
(.seq
(.ops [⟨(some 3), none, (.p (.mv (.tmp 0))), 0, []⟩,
⟨(some 4), none, (.h (.call (.c (.fn 101 [] [])) [(.tmp 3), (.c (.int .i64 10))])), 0, []⟩,
⟨(some 2), none, (.p (.mv (.tmp 4))), 0, []⟩])
.ret))⟩
theorem c93 : Mir.compF Tryz.prog Tryz.f93 = some g93 := by kernel_rfl
/-- strings.Index -/
def g94 : Mir.Fn := ⟨8, [(.tmp 4)],
(.seq
(.ops [⟨(some 4), none, (.p (.mv (.c (.int .i64 0)))), 0, []⟩])
(.seq
(.ops [⟨(some 5), none, (.p (.mv (.tmp 0))), 0, []⟩,
⟨(some 6), none, (.p (.mv (.tmp 1))), 0, []⟩,
⟨(some 7), none, (.h (.call (.c (.fn 102 [] [])) [(.tmp 5), (.tmp 6)])), 0, []⟩,
⟨(some 4), none, (.p (.mv (.tmp 7))), 0, []⟩])
.ret))⟩
theorem c94 : Mir.compF Tryz.prog Tryz.f94 = some g94 := by kernel_rfl
/-- internal/stringslite.IndexByte -/
def g95 : Mir.Fn := ⟨8, [(.tmp 4)],
(.seq
(.ops [⟨(some 4), none, (.p (.mv (.c (.int .i64 0)))), 0, []⟩])
(.seq
(.ops [⟨(some 5), none, (.p (.mv (.tmp 0))), 0, []⟩,
⟨(some 6), none, (.p (.mv (.tmp 1))), 0, []⟩,
⟨(some 7), none, (.p (.idxByte (.tmp 5) (.tmp 6))), 0, []⟩,
⟨(some 4), none, (.p (.mv (.tmp 7))), 0, []⟩])
.ret))⟩
theorem c95 : Mir.compF Tryz.prog Tryz.f95 = some g95 := by kernel_rfl
/-- (*scribe/parse.parser).ahead -/
def g96 : Mir.Fn := ⟨37, [(.cell 4 3 true)],
(.seq
(.ops [⟨(some 4), none, (.a (.alloc [(.int .i64 0), (.str []), (.int .i64 0)])), 0, []⟩])
(.seq
(.seq
(.draw [⟨(some 5), none, (.p (.mv (.tmp 0))), 0, []⟩,
⟨(some 6), none, (.p (.nilchk (.tmp 5))), 1, []⟩,
⟨(some 7), none, (.p (.fieldAt 4 (.tmp 6))), 2, []⟩,
⟨(some 8), none, (.r (.load 1 false (.tmp 7))), 3, []⟩,
⟨(some 9), none, (.p (.bin .neq (.tmp 8) (.c (.int .i64 0)))), 4, []⟩,
⟨(some 10), none, (.p (.mv (.tmp 9))), 5, []⟩,
⟨(some 11), (some (10, false)), (.p (.mv (.tmp 0))), 6, []⟩,
⟨(some 12), (some (10, false)), (.p (.nilchk (.tmp 11))), 7, []⟩,
⟨(some 13), (some (10, false)), (.p (.fieldAt 1 (.tmp 12))), 8, []⟩,
⟨(some 14), (some (10, false)), (.r (.load 1 false (.tmp 13))), 9, []⟩,
⟨(some 15), (some (10, false)), (.p (.mv (.tmp 1))), 10, []⟩,
⟨(some 16), (some (10, false)), (.p (.bin .add (.tmp 14) (.tmp 15))), 11, []⟩,
⟨(some 17), (some (10, false)), (.p (.mv (.tmp 0))), 12, []⟩,
⟨(some 18), (some (10, false)), (.p (.nilchk (.tmp 17))), 13, []⟩,
⟨(some 19), (some (10, false)), (.p (.fieldAt 0 (.tmp 18))), 14, []⟩,
⟨(some 20), (some (10, false)), (.r (.load 1 false (.tmp 19))), 15, []⟩,
⟨(some 21), (some (10, false)), (.p (.lenSl (.tmp 20))), 16, []⟩,
⟨(some 22), (some (10, false)), (.p (.bin .geq (.tmp 16) (.tmp 21))), 17, []⟩,
⟨(some 23), none, (.p (.pick (.tmp 10) (.c (.bool true)) (.tmp 22))), 18, []⟩])
(.cond (.tmp 23)
(.seq
(.ops [⟨(some 24), none, (.p (.build [(.int .i64 0), (.str []), (.int .i64 0)] [])), 0, []⟩,
⟨none, none, (.h (.store 3 (.tmp 4) (.tmp 24))), 0, []⟩])
.ret)
.skip))
(.seq
(.draw [⟨(some 25), none, (.p (.mv (.tmp 0))), 0, []⟩,
⟨(some 26), none, (.p (.nilchk (.tmp 25))), 1, []⟩,
⟨(some 27), none, (.p (.fieldAt 0 (.tmp 26))), 2, []⟩,
⟨(some 28), none, (.r (.load 1 false (.tmp 27))), 3, []⟩,
⟨(some 29), none, (.p (.mv (.tmp 0))), 4, []⟩,
⟨(some 30), none, (.p (.nilchk (.tmp 29))), 5, []⟩,
⟨(some 31), none, (.p (.fieldAt 1 (.tmp 30))), 6, []⟩,
⟨(some 32), none, (.r (.load 1 false (.tmp 31))), 7, []⟩,
⟨(some 33), none, (.p (.mv (.tmp 1))), 8, []⟩,
⟨(some 34), none, (.p (.bin .add (.tmp 32) (.tmp 33))), 9, []⟩,
⟨(some 35), none, (.p (.idxSl 3 (.tmp 28) (.tmp 34))), 10, []⟩,
⟨(some 36), none, (.r (.load 3 true (.tmp 35))), 11, []⟩,
⟨none, none, (.h (.store 3 (.tmp 4) (.tmp 36))), 12, []⟩])
.ret)))⟩
theorem c96 : Mir.compF Tryz.prog Tryz.f96 = some g96 := by kernel_rfl
/-- (*scribe/parse.parser).over -/
def g97 : Mir.Fn := ⟨18, [(.tmp 2)],
(.seq
(.ops [⟨(some 2), none, (.p (.mv (.c (.bool false)))), 0, []⟩])
(.seq
(.ops [⟨(some 3), none, (.p (.mv (.tmp 0))), 0, []⟩,
⟨(some 4), none, (.a (.mkSl [(.str [])] 1 3 [(0, (1, (.c (.str [59])))), (1, (1, (.c (.str [125])))), (2, (1, (.c (.str [41]))))])), 0, []⟩,
⟨(some 5), none, (.h (.call (.c (.fn 26 [] [])) [(.tmp 3), (.tmp 4)])), 0, []⟩,
⟨(some 6), none, (.p (.mv (.tmp 5))), 0, []⟩,
⟨(some 7), (some (6, false)), (.p (.mv (.tmp 0))), 0, []⟩,
⟨(some 8), (some (6, false)), (.h (.call (.c (.fn 27 [] [])) [(.tmp 7)])), 0, []⟩,
⟨(some 9), (some (6, false)), (.p (.field 0 1 false (.tmp 8))), 0, []⟩,
⟨(some 10), (some (6, false)), (.p (.bin .eql (.tmp 9) (.c (.int .i64 1)))), 0, []⟩,
⟨(some 11), none, (.p (.pick (.tmp 6) (.c (.bool true)) (.tmp 10))), 0, []⟩,
⟨(some 12), none, (.p (.mv (.tmp 11))), 0, []⟩,
⟨(some 13), (some (12, false)), (.p (.mv (.tmp 0))), 0, []⟩,
⟨(some 14), (some (12, false)), (.h (.call (.c (.fn 27 [] [])) [(.tmp 13)])), 0, []⟩,
⟨(some 15), (some (12, false)), (.p (.field 0 1 false (.tmp 14))), 0, []⟩,
⟨(some 16), (some (12, false)), (.p (.bin .eql (.tmp 15) (.c (.int .i64 0)))), 0, []⟩,
⟨(some 17), none, (.p (.pick (.tmp 12) (.c (.bool true)) (.tmp 16))), 0, []⟩,
⟨(some 2), none, (.p (.mv (.tmp 17))), 0, []⟩])
.ret))⟩
theorem c97 : Mir.compF Tryz.prog Tryz.f97 = some g97 := by kernel_rfl
/-- (*scribe/parse.parser).output -/
def g98 : Mir.Fn := ⟨81, [(.cell 4 4 true)],
(.seq
(.ops [⟨(some 4), none, (.a (.alloc [(.str []), (.str []), (.int .i64 0), .nilsl])), 0, []⟩])
(.seq
(.ops [⟨(some 9), none, (.p (.mv (.tmp 0))), 0, []⟩,
⟨(some 10), none, (.p (.nilchk (.tmp 9))), 0, []⟩,
⟨(some 11), none, (.p (.fieldAt 3 (.tmp 10))), 0, []⟩,
⟨none, none, (.h (.store 1 (.tmp 11) (.c (.bool true)))), 0, []⟩])
(.seq
(.ops [⟨(some 5), none, (.p (.mv (.c .nilsl))), 0, []⟩])
(.seq
(.seq
(.ops [⟨(some 12), none, (.p (.mv (.tmp 0))), 0, []⟩,
⟨(some 13), none, (.h (.call (.c (.fn 104 [] [])) [(.tmp 12)])), 0, []⟩])
(.cond (.tmp 13)
(.seq
(.ops [⟨(some 14), none, (.p (.mv (.tmp 0))), 0, []⟩,
⟨(some 15), none, (.h (.call (.c (.fn 28 [] [])) [(.tmp 14)])), 0, []⟩])
(.ops [⟨(some 16), none, (.p (.mv (.tmp 0))), 0, []⟩,
⟨(some 17), none, (.h (.call (.c (.fn 105 [] [])) [(.tmp 16), (.c (.str [41]))])), 0, []⟩,
⟨(some 5), none, (.p (.mv (.tmp 17))), 0, []⟩]))
(.block 0 (.loop (.seq
(.seq
(.ops [⟨(some 18), none, (.p (.mv (.tmp 0))), 0, []⟩,
⟨(some 19), none, (.p (.nilchk (.tmp 18))), 0, []⟩,
⟨(some 20), none, (.p (.fieldAt 4 (.tmp 19))), 0, []⟩,
⟨(some 21), none, (.r (.load 1 false (.tmp 20))), 0, []⟩,
⟨(some 22), none, (.p (.bin .eql (.tmp 21) (.c (.int .i64 0)))), 0, []⟩,
⟨(some 23), none, (.p (.mv (.tmp 22))), 0, []⟩,
⟨(some 24), (some (23, true)), (.p (.mv (.tmp 0))), 0, []⟩,
⟨(some 25), (some (23, true)), (.h (.call (.c (.fn 97 [] [])) [(.tmp 24)])), 0, []⟩,
⟨(some 26), (some (23, true)), (.p (.un .not (.tmp 25))), 0, []⟩,
⟨(some 27), none, (.p (.pick (.tmp 23) (.tmp 26) (.c (.bool false)))), 0, []⟩,
⟨(some 28), none, (.p (.mv (.tmp 27))), 0, []⟩,
⟨(some 29), (some (28, true)), (.p (.mv (.tmp 0))), 0, []⟩,
⟨(some 30), (some (28, true)), (.a (.mkSl [(.str [])] 1 2 [(0, (1, (.c (.str [62])))), (1, (1, (.c (.str [62, 62]))))])), 0, []⟩,
⟨(some 31), (some (28, true)), (.h (.call (.c (.fn 26 [] [])) [(.tmp 29), (.tmp 30)])), 0, []⟩,
⟨(some 32), (some (28, true)), (.p (.un .not (.tmp 31))), 0, []⟩,
⟨(some 33), none, (.p (.pick (.tmp 28) (.tmp 32) (.c (.bool false)))), 0, []⟩])
(.cond (.tmp 33)
.skip
(.exit 0)))
(.block 1 (.seq
(.seq
(.ops [⟨(some 34), none, (.p (.mv (.tmp 5))), 0, []⟩,
⟨(some 35), none, (.p (.lenSl (.tmp 34))), 0, []⟩,
⟨(some 36), none, (.p (.bin .gtr (.tmp 35) (.c (.int .i64 0)))), 0, []⟩])
(.cond (.tmp 36)
(.seq
(.ops [⟨(some 37), none, (.p (.mv (.tmp 0))), 0, []⟩,
⟨(some 38), none, (.h (.call (.c (.fn 44 [] [])) [(.tmp 37), (.c (.str [44]))])), 0, []⟩])
(.ops [⟨(some 39), none, (.p (.mv (.tmp 0))), 0, []⟩,
⟨(some 40), none, (.h (.call (.c (.fn 45 [] [])) [(.tmp 39)])), 0, []⟩]))
.skip))
(.ops [⟨(some 41), none, (.p (.mv (.tmp 5))), 0, []⟩,
⟨(some 42), none, (.p (.mv (.tmp 0))), 0, []⟩,
⟨(some 43), none, (.h (.call (.c (.fn 46 [] [])) [(.tmp 42)])), 0, []⟩,
⟨(some 44), none, (.a (.mkSl [(.str []), (.str []), (.int .i64 0), .nilsl] 4 1 [(0, (4, (.tmp 43)))])), 0, []⟩,
⟨(some 45), none, (.h (.app 4 64 (.tmp 41) (.tmp 44))), 0, []⟩,
⟨(some 5), none, (.p (.mv (.tmp 45))), 0, []⟩]))))))))
(.seq
(.ops [⟨(some 46), none, (.h (.call (.c (.fn 25 [] [])) [(.c (.str [110, 111, 110, 101])), (.c .nilsl)])), 0, []⟩,
⟨(some 6), none, (.a (.alloc [(.str []), (.str []), (.int .i64 0), .nilsl])), 0, []⟩,
⟨none, none, (.h (.store 4 (.tmp 6) (.tmp 46))), 0, []⟩])
(.seq
(.seq
(.ops [⟨(some 47), none, (.a .mkMap), 0, []⟩,
⟨none, none, (.h (.mapUpd (.one .str) (.tmp 47) (.c (.str [62])) (.c (.str [116, 111])))), 0, []⟩,
⟨none, none, (.h (.mapUpd (.one .str) (.tmp 47) (.c (.str [62, 62])) (.c (.str [97, 112, 112, 101, 110, 100])))), 0, []⟩,
⟨(some 48), none, (.p (.mv (.tmp 47))), 0, []⟩,
⟨(some 49), none, (.h (.range (.tmp 48))), 0, []⟩])
(.block 2 (.loop (.seq
(.ops [⟨(some 50), none, (.h (.next (.tmp 49))), 0, []⟩,
⟨(some 51), none, (.p (.ext (.tmp 50) 0)), 0, []⟩])
(.seq
(.cond (.tmp 51)
.skip
(.exit 2))
(.block 3 (.seq
(.ops [⟨(some 52), none, (.r (.entry (.tmp 49))), 0, []⟩,
⟨(some 53), none, (.p (.ext (.tmp 52) 0)), 0, []⟩,
⟨(some 54), none, (.p (.ext (.tmp 52) 1)), 0, []⟩,
⟨(some 7), none, (.p (.mv (.tmp 53))), 0, []⟩,
⟨(some 8), none, (.p (.mv (.tmp 54))), 0, []⟩])
(.seq
(.ops [⟨(some 55), none, (.p (.mv (.tmp 0))), 0, []⟩,
⟨(some 56), none, (.p (.mv (.tmp 7))), 0, []⟩,
⟨(some 57), none, (.h (.call (.c (.fn 40 [] [])) [(.tmp 55), (.tmp 56)])), 0, []⟩])
(.cond (.tmp 57)
(.seq
(.ops [⟨(some 58), none, (.p (.mv (.tmp 8))), 0, []⟩,
⟨(some 59), none, (.p (.mv (.tmp 0))), 0, []⟩,
⟨(some 60), none, (.h (.call (.c (.fn 106 [] [])) [(.tmp 59)])), 0, []⟩,
⟨(some 61), none, (.a (.mkSl [(.str []), (.str []), (.int .i64 0), .nilsl] 4 1 [(0, (4, (.tmp 60)))])), 0, []⟩,
⟨(some 62), none, (.h (.call (.c (.fn 25 [] [])) [(.tmp 58), (.tmp 61)])), 0, []⟩,
⟨none, none, (.h (.store 4 (.tmp 6) (.tmp 62))), 0, []⟩])
(.exit 2))
.skip)))))))))
(.seq
(.ops [⟨(some 63), none, (.p (.mv (.tmp 0))), 0, []⟩,
⟨(some 64), none, (.p (.nilchk (.tmp 63))), 0, []⟩,
⟨(some 65), none, (.p (.fieldAt 3 (.tmp 64))), 0, []⟩,
⟨none, none, (.h (.store 1 (.tmp 65) (.c (.bool false)))), 0, []⟩])
(.seq
(.seq
(.ops [⟨(some 66), none, (.p (.mv (.tmp 1))), 0, []⟩,
⟨(some 67), none, (.p (.bin .eql (.tmp 66) (.c (.str [112, 114, 105, 110, 116, 102])))), 0, []⟩,
⟨(some 68), none, (.p (.mv (.tmp 67))), 0, []⟩,
⟨(some 69), (some (68, true)), (.p (.mv (.tmp 5))), 0, []⟩,
⟨(some 70), (some (68, true)), (.p (.lenSl (.tmp 69))), 0, []⟩,
⟨(some 71), (some (68, true)), (.p (.bin .eql (.tmp 70) (.c (.int .i64 0)))), 0, []⟩,
⟨(some 72), none, (.p (.pick (.tmp 68) (.tmp 71) (.c (.bool false)))), 0, []⟩])
(.cond (.tmp 72)
(.ops [⟨(some 73), none, (.p (.mv (.tmp 0))), 0, []⟩,
⟨(some 74), none, (.h (.call (.c (.fn 47 [] [])) [(.tmp 73)])), 0, []⟩])
.skip))
(.seq
(.ops [⟨(some 75), none, (.p (.mv (.tmp 1))), 0, []⟩,
⟨(some 76), none, (.r (.load 4 true (.tmp 6))), 0, []⟩,
⟨(some 77), none, (.a (.mkSl [(.str []), (.str []), (.int .i64 0), .nilsl] 4 1 [(0, (4, (.tmp 76)))])), 0, []⟩,
⟨(some 78), none, (.p (.mv (.tmp 5))), 0, []⟩,
⟨(some 79), none, (.h (.app 4 64 (.tmp 77) (.tmp 78))), 0, []⟩,
⟨(some 80), none, (.h (.call (.c (.fn 25 [] [])) [(.tmp 75), (.tmp 79)])), 0, []⟩,
⟨none, none, (.h (.store 4 (.tmp 4) (.tmp 80))), 0, []⟩])
.ret)))))))))⟩
theorem c98 : Mir.compF Tryz.prog Tryz.f98 = some g98 := by kernel_rfl
/-- (*scribe/parse.parser).in -/
def g99 : Mir.Fn := ⟨15, [(.cell 2 4 true)],
(.seq
(.ops [⟨(some 2), none, (.a (.alloc [(.str []), (.str []), (.int .i64 0), .nilsl])), 0, []⟩])
(.seq
(.ops [⟨(some 4), none, (.p (.mv (.tmp 0))), 0, []⟩,
⟨(some 5), none, (.h (.call (.c (.fn 107 [] [])) [(.tmp 4)])), 0, []⟩,
⟨(some 3), none, (.a (.alloc [(.str []), (.str []), (.int .i64 0), .nilsl])), 0, []⟩,
⟨none, none, (.h (.store 4 (.tmp 3) (.tmp 5))), 0, []⟩])
(.seq
(.block 0 (.loop (.seq
(.seq
(.ops [⟨(some 6), none, (.p (.mv (.tmp 0))), 0, []⟩,
⟨(some 7), none, (.h (.call (.c (.fn 40 [] [])) [(.tmp 6), (.c (.str [105, 110]))])), 0, []⟩])
(.cond (.tmp 7)
.skip
(.exit 0)))
(.block 1 (.draw [⟨(some 8), none, (.p (.mv (.tmp 0))), 0, []⟩,
⟨(some 9), none, (.a (.mkSl [(.int .i64 0)] 1 1 [(0, (1, (.c (.int .i64 5))))])), 1, []⟩,
⟨(some 11), none, (.r (.load 4 true (.tmp 3))), 3, []⟩,
⟨(some 10), none, (.h (.call (.c (.fn 43 [] [])) [(.tmp 8), (.tmp 9)])), 2, [3]⟩,
⟨(some 12), none, (.a (.mkSl [(.str []), (.str []), (.int .i64 0), .nilsl] 4 1 [(0, (4, (.tmp 11)))])), 4, []⟩,
⟨(some 13), none, (.h (.call (.c (.fn 42 [] [])) [(.c (.str [105, 110])), (.tmp 10), (.tmp 12)])), 5, []⟩,
⟨none, none, (.h (.store 4 (.tmp 3) (.tmp 13))), 6, []⟩])))))
(.seq
(.ops [⟨(some 14), none, (.r (.load 4 true (.tmp 3))), 0, []⟩,
⟨none, none, (.h (.store 4 (.tmp 2) (.tmp 14))), 0, []⟩])
.ret))))⟩
theorem c99 : Mir.compF Tryz.prog Tryz.f99 = some g99 := by kernel_rfl
/-- internal/strconv.FormatInt -/
def g101 : Mir.Fn := ⟨54, [(.tmp 4)],
(.seq
(.ops [⟨(some 4), none, (.p (.mv (.c (.str [])))), 0, []⟩])
(.seq
(.seq
(.ops [⟨(some 10), none, (.p (.mv (.tmp 1))), 0, []⟩,
⟨(some 11), none, (.p (.bin .eql (.tmp 10) (.c (.int .i64 10)))), 0, []⟩])
(.cond (.tmp 11)
(.seq
(.seq
(.ops [⟨(some 12), none, (.p (.mv (.tmp 0))), 0, []⟩,
⟨(some 13), none, (.p (.bin .leq (.c (.int .i64 0)) (.tmp 12))), 0, []⟩,
⟨(some 14), none, (.p (.mv (.tmp 13))), 0, []⟩,
⟨(some 15), (some (14, true)), (.p (.mv (.tmp 0))), 0, []⟩,
⟨(some 16), (some (14, true)), (.p (.bin .lss (.tmp 15) (.c (.int .i64 100)))), 0, []⟩,
⟨(some 17), none, (.p (.pick (.tmp 14) (.tmp 16) (.c (.bool false)))), 0, []⟩])
(.cond (.tmp 17)
(.seq
(.ops [⟨(some 18), none, (.p (.mv (.tmp 0))), 0, []⟩,
⟨(some 19), none, (.h (.call (.c (.fn 108 [] [])) [(.tmp 18)])), 0, []⟩,
⟨(some 4), none, (.p (.mv (.tmp 19))), 0, []⟩])
.ret)
.skip))
(.seq
(.ops [⟨(some 5), none, (.a (.alloc [(.int .u8 0), (.int .u8 0), (.int .u8 0), (.int .u8 0), (.int .u8 0), (.int .u8 0), (.int .u8 0), (.int .u8 0), (.int .u8 0), (.int .u8 0), (.int .u8 0), (.int .u8 0), (.int .u8 0), (.int .u8 0), (.int .u8 0), (.int .u8 0), (.int .u8 0), (.int .u8 0), (.int .u8 0), (.int .u8 0), (.int .u8 0), (.int .u8 0), (.int .u8 0), (.int .u8 0)])), 0, []⟩])
(.seq
(.ops [⟨(some 20), none, (.p (.mv (.tmp 0))), 0, []⟩,
⟨(some 21), none, (.p (.convInt .u64 (.tmp 20))), 0, []⟩,
⟨(some 6), none, (.p (.mv (.tmp 21))), 0, []⟩])
(.seq
(.seq
(.ops [⟨(some 22), none, (.p (.mv (.tmp 0))), 0, []⟩,
⟨(some 23), none, (.p (.bin .lss (.tmp 22) (.c (.int .i64 0)))), 0, []⟩])
(.cond (.tmp 23)
(.ops [⟨(some 24), none, (.p (.mv (.tmp 6))), 0, []⟩,
⟨(some 25), none, (.p (.un .neg (.tmp 24))), 0, []⟩,
⟨(some 6), none, (.p (.mv (.tmp 25))), 0, []⟩])
.skip))
(.seq
(.ops [⟨(some 26), none, (.p (.mv (.tmp 6))), 0, []⟩,
⟨(some 27), none, (.h (.call (.c (.fn 109 [] [])) [(.tmp 26)])), 0, []⟩,
⟨(some 7), none, (.p (.mv (.tmp 27))), 0, []⟩])
(.seq
(.ops [⟨(some 28), none, (.p (.mv (.tmp 7))), 0, []⟩,
⟨(some 29), none, (.p (.bin .add (.c (.int .i64 1)) (.tmp 28))), 0, []⟩,
⟨(some 30), none, (.r (.slArr 24 1 (.tmp 5) (some (.c (.int .i64 1))) (some (.tmp 29)))), 0, []⟩,
⟨(some 31), none, (.p (.mv (.tmp 6))), 0, []⟩,
⟨(some 32), none, (.h (.call (.c (.fn 110 [] [])) [(.tmp 30), (.tmp 31)])), 0, []⟩])
(.seq
(.seq
(.ops [⟨(some 33), none, (.p (.mv (.tmp 0))), 0, []⟩,
⟨(some 34), none, (.p (.bin .lss (.tmp 33) (.c (.int .i64 0)))), 0, []⟩])
(.cond (.tmp 34)
(.seq
(.ops [⟨(some 35), none, (.p (.idxArr 24 1 (.tmp 5) (.c (.int .i64 0)))), 0, []⟩,
⟨none, none, (.h (.store 1 (.tmp 35) (.c (.int .u8 45)))), 0, []⟩])
(.seq
(.ops [⟨(some 36), none, (.p (.mv (.tmp 7))), 0, []⟩,
⟨(some 37), none, (.p (.bin .add (.c (.int .i64 1)) (.tmp 36))), 0, []⟩,
⟨(some 38), none, (.r (.slArr 24 1 (.tmp 5) none (some (.tmp 37)))), 0, []⟩,
⟨(some 39), none, (.r (.toStr (.tmp 38))), 0, []⟩,
⟨(some 4), none, (.p (.mv (.tmp 39))), 0, []⟩])
.ret))
.skip))
(.seq
(.ops [⟨(some 40), none, (.p (.mv (.tmp 7))), 0, []⟩,
⟨(some 41), none, (.p (.bin .add (.c (.int .i64 1)) (.tmp 40))), 0, []⟩,
⟨(some 42), none, (.r (.slArr 24 1 (.tmp 5) (some (.c (.int .i64 1))) (some (.tmp 41)))), 0, []⟩,
⟨(some 43), none, (.r (.toStr (.tmp 42))), 0, []⟩,
⟨(some 4), none, (.p (.mv (.tmp 43))), 0, []⟩])
.ret))))))))
.skip))
(.seq
(.ops [⟨(some 45), none, (.p (.mv (.tmp 0))), 0, []⟩,
⟨(some 46), none, (.p (.convInt .u64 (.tmp 45))), 0, []⟩,
⟨(some 47), none, (.p (.mv (.tmp 1))), 0, []⟩,
⟨(some 48), none, (.p (.mv (.tmp 0))), 0, []⟩,
⟨(some 49), none, (.p (.bin .lss (.tmp 48) (.c (.int .i64 0)))), 0, []⟩,
⟨(some 50), none, (.h (.call (.c (.fn 111 [] [])) [(.c .nilsl), (.tmp 46), (.tmp 47), (.tmp 49), (.c (.bool false))])), 0, []⟩,
⟨(some 44), none, (.p (.mv (.tmp 50))), 0, []⟩,
⟨(some 51), none, (.p (.ext (.tmp 44) 0)), 0, []⟩,
⟨(some 52), none, (.p (.ext (.tmp 44) 1)), 0, []⟩,
⟨(some 8), none, (.p (.mv (.tmp 51))), 0, []⟩,
⟨(some 9), none, (.p (.mv (.tmp 52))), 0, []⟩])
(.seq
(.ops [⟨(some 53), none, (.p (.mv (.tmp 9))), 0, []⟩,
⟨(some 4), none, (.p (.mv (.tmp 53))), 0, []⟩])
.ret))))⟩
theorem c101 : Mir.compF Tryz.prog Tryz.f101 = some g101 := by kernel_rfl
/-- internal/stringslite.Index -/
def g102 : Mir.Fn := ⟨143, [(.tmp 4)],
(.seq
(.ops [⟨(some 4), none, (.p (.mv (.c (.int .i64 0)))), 0, []⟩])
(.seq
(.ops [⟨(some 14), none, (.p (.mv (.tmp 1))), 0, []⟩,
⟨(some 15), none, (.p (.lenStr (.tmp 14))), 0, []⟩,
⟨(some 5), none, (.p (.mv (.tmp 15))), 0, []⟩])
(.seq
(.block 0 (.seq
(.ops [⟨(some 17), none, (.p (.mv (.tmp 5))), 0, []⟩,
⟨(some 18), none, (.p (.bin .eql (.tmp 17) (.c (.int .i64 0)))), 0, []⟩,
⟨(some 19), none, (.p (.mv (.tmp 18))), 0, []⟩,
⟨(some 20), (some (19, false)), (.p (.mv (.tmp 1))), 0, []⟩,
⟨(some 21), (some (19, false)), (.p (.mv (.tmp 0))), 0, []⟩,
⟨(some 22), (some (19, false)), (.p (.bin .eql (.tmp 20) (.tmp 21))), 0, []⟩,
⟨(some 23), none, (.p (.pick (.tmp 19) (.c (.bool true)) (.tmp 22))), 0, []⟩,
⟨(some 16), none, (.p (.mv (.tmp 23))), 0, []⟩])
(.cond (.tmp 16)
(.seq
(.ops [⟨(some 4), none, (.p (.mv (.c (.int .i64 0)))), 0, []⟩])
.ret)
(.seq
(.ops [⟨(some 25), none, (.p (.mv (.tmp 5))), 0, []⟩,
⟨(some 26), none, (.p (.bin .eql (.tmp 25) (.c (.int .i64 1)))), 0, []⟩,
⟨(some 24), none, (.p (.mv (.tmp 26))), 0, []⟩])
(.cond (.tmp 24)
(.seq
(.ops [⟨(some 27), none, (.p (.mv (.tmp 0))), 0, []⟩,
⟨(some 28), none, (.p (.mv (.tmp 1))), 0, []⟩,
⟨(some 29), none, (.p (.idxStr (.tmp 28) (.c (.int .i64 0)))), 0, []⟩,
⟨(some 30), none, (.h (.call (.c (.fn 95 [] [])) [(.tmp 27), (.tmp 29)])), 0, []⟩,
⟨(some 4), none, (.p (.mv (.tmp 30))), 0, []⟩])
.ret)
(.seq
(.ops [⟨(some 32), none, (.p (.mv (.tmp 5))), 0, []⟩,
⟨(some 33), none, (.p (.mv (.tmp 0))), 0, []⟩,
⟨(some 34), none, (.p (.lenStr (.tmp 33))), 0, []⟩,
⟨(some 35), none, (.p (.bin .geq (.tmp 32) (.tmp 34))), 0, []⟩,
⟨(some 31), none, (.p (.mv (.tmp 35))), 0, []⟩])
(.cond (.tmp 31)
(.seq
(.ops [⟨(some 4), none, (.p (.mv (.c (.int .i64 (-1))))), 0, []⟩])
.ret)
(.seq
(.ops [⟨(some 37), none, (.p (.mv (.tmp 5))), 0, []⟩,
⟨(some 38), none, (.r (.load 1 false (.glob 4))), 0, []⟩,
⟨(some 39), none, (.p (.bin .leq (.tmp 37) (.tmp 38))), 0, []⟩,
⟨(some 40), none, (.p (.mv (.tmp 39))), 0, []⟩,
⟨(some 41), (some (40, true)), (.p (.mv (.tmp 0))), 0, []⟩,
⟨(some 42), (some (40, true)), (.p (.lenStr (.tmp 41))), 0, []⟩,
⟨(some 43), (some (40, true)), (.p (.bin .leq (.tmp 42) (.c (.int .i64 64)))), 0, []⟩,
⟨(some 44), none, (.p (.pick (.tmp 40) (.tmp 43) (.c (.bool false)))), 0, []⟩,
⟨(some 36), none, (.p (.mv (.tmp 44))), 0, []⟩])
(.cond (.tmp 36)
(.seq
(.ops [⟨(some 45), none, (.p (.mv (.tmp 0))), 0, []⟩,
⟨(some 46), none, (.p (.mv (.tmp 1))), 0, []⟩,
⟨(some 47), none, (.r (.idxSub 4 (.tmp 45) (.tmp 46))), 0, []⟩,
⟨(some 4), none, (.p (.mv (.tmp 47))), 0, []⟩])
.ret)
.skip)))))))))
(.seq
(.ops [⟨(some 48), none, (.p (.mv (.tmp 1))), 0, []⟩,
⟨(some 49), none, (.p (.idxStr (.tmp 48) (.c (.int .i64 0)))), 0, []⟩,
⟨(some 6), none, (.p (.mv (.tmp 49))), 0, []⟩])
(.seq
(.ops [⟨(some 50), none, (.p (.mv (.tmp 1))), 0, []⟩,
⟨(some 51), none, (.p (.idxStr (.tmp 50) (.c (.int .i64 1)))), 0, []⟩,
⟨(some 7), none, (.p (.mv (.tmp 51))), 0, []⟩])
(.seq
(.ops [⟨(some 8), none, (.p (.mv (.c (.int .i64 0)))), 0, []⟩])
(.seq
(.ops [⟨(some 52), none, (.p (.mv (.tmp 0))), 0, []⟩,
⟨(some 53), none, (.p (.lenStr (.tmp 52))), 0, []⟩,
⟨(some 54), none, (.p (.mv (.tmp 5))), 0, []⟩,
⟨(some 55), none, (.p (.bin .sub (.tmp 53) (.tmp 54))), 0, []⟩,
⟨(some 56), none, (.p (.bin .add (.tmp 55) (.c (.int .i64 1)))), 0, []⟩,
⟨(some 9), none, (.p (.mv (.tmp 56))), 0, []⟩])
(.seq
(.ops [⟨(some 10), none, (.p (.mv (.c (.int .i64 0)))), 0, []⟩])
(.seq
(.block 1 (.loop (.seq
(.seq
(.ops [⟨(some 57), none, (.p (.mv (.tmp 8))), 0, []⟩,
⟨(some 58), none, (.p (.mv (.tmp 9))), 0, []⟩,
⟨(some 59), none, (.p (.bin .lss (.tmp 57) (.tmp 58))), 0, []⟩])
(.cond (.tmp 59)
.skip
(.exit 1)))
(.block 2 (.seq
(.seq
(.ops [⟨(some 60), none, (.p (.mv (.tmp 0))), 0, []⟩,
⟨(some 61), none, (.p (.mv (.tmp 8))), 0, []⟩,
⟨(some 62), none, (.p (.idxStr (.tmp 60) (.tmp 61))), 0, []⟩,
⟨(some 63), none, (.p (.mv (.tmp 6))), 0, []⟩,
⟨(some 64), none, (.p (.bin .neq (.tmp 62) (.tmp 63))), 0, []⟩])
(.cond (.tmp 64)
(.seq
(.ops [⟨(some 65), none, (.p (.mv (.tmp 0))), 0, []⟩,
⟨(some 66), none, (.p (.mv (.tmp 8))), 0, []⟩,
⟨(some 67), none, (.p (.bin .add (.tmp 66) (.c (.int .i64 1)))), 0, []⟩,
⟨(some 68), none, (.p (.mv (.tmp 9))), 0, []⟩,
⟨(some 69), none, (.p (.subStr (.tmp 65) (some (.tmp 67)) (some (.tmp 68)))), 0, []⟩,
⟨(some 70), none, (.p (.mv (.tmp 6))), 0, []⟩,
⟨(some 71), none, (.h (.call (.c (.fn 95 [] [])) [(.tmp 69), (.tmp 70)])), 0, []⟩,
⟨(some 11), none, (.p (.mv (.tmp 71))), 0, []⟩])
(.seq
(.seq
(.ops [⟨(some 72), none, (.p (.mv (.tmp 11))), 0, []⟩,
⟨(some 73), none, (.p (.bin .lss (.tmp 72) (.c (.int .i64 0)))), 0, []⟩])
(.cond (.tmp 73)
(.seq
(.ops [⟨(some 4), none, (.p (.mv (.c (.int .i64 (-1))))), 0, []⟩])
.ret)
.skip))
(.ops [⟨(some 74), none, (.p (.mv (.tmp 8))), 0, []⟩,
⟨(some 75), none, (.p (.mv (.tmp 11))), 0, []⟩,
⟨(some 76), none, (.p (.bin .add (.tmp 75) (.c (.int .i64 1)))), 0, []⟩,
⟨(some 77), none, (.p (.bin .add (.tmp 74) (.tmp 76))), 0, []⟩,
⟨(some 8), none, (.p (.mv (.tmp 77))), 0, []⟩])))
.skip))
(.seq
(.seq
(.ops [⟨(some 78), none, (.p (.mv (.tmp 0))), 0, []⟩,
⟨(some 79), none, (.p (.mv (.tmp 8))), 0, []⟩,
⟨(some 80), none, (.p (.bin .add (.tmp 79) (.c (.int .i64 1)))), 0, []⟩,
⟨(some 81), none, (.p (.idxStr (.tmp 78) (.tmp 80))), 0, []⟩,
⟨(some 82), none, (.p (.mv (.tmp 7))), 0, []⟩,
⟨(some 83), none, (.p (.bin .eql (.tmp 81) (.tmp 82))), 0, []⟩,
⟨(some 84), none, (.p (.mv (.tmp 83))), 0, []⟩,
⟨(some 85), (some (84, true)), (.p (.mv (.tmp 0))), 0, []⟩,
⟨(some 86), (some (84, true)), (.p (.mv (.tmp 8))), 0, []⟩,
⟨(some 87), (some (84, true)), (.p (.mv (.tmp 8))), 0, []⟩,
⟨(some 88), (some (84, true)), (.p (.mv (.tmp 5))), 0, []⟩,
⟨(some 89), (some (84, true)), (.p (.bin .add (.tmp 87) (.tmp 88))), 0, []⟩,
⟨(some 90), (some (84, true)), (.p (.subStr (.tmp 85) (some (.tmp 86)) (some (.tmp 89)))), 0, []⟩,
⟨(some 91), (some (84, true)), (.p (.mv (.tmp 1))), 0, []⟩,
⟨(some 92), (some (84, true)), (.p (.bin .eql (.tmp 90) (.tmp 91))), 0, []⟩,
⟨(some 93), none, (.p (.pick (.tmp 84) (.tmp 92) (.c (.bool false)))), 0, []⟩])
(.cond (.tmp 93)
(.seq
(.ops [⟨(some 94), none, (.p (.mv (.tmp 8))), 0, []⟩,
⟨(some 4), none, (.p (.mv (.tmp 94))), 0, []⟩])
.ret)
.skip))
(.seq
(.ops [⟨(some 95), none, (.p (.mv (.tmp 8))), 0, []⟩,
⟨(some 96), none, (.p (.bin .add (.tmp 95) (.c (.int .i64 1)))), 0, []⟩,
⟨(some 8), none, (.p (.mv (.tmp 96))), 0, []⟩])
(.seq
(.ops [⟨(some 97), none, (.p (.mv (.tmp 10))), 0, []⟩,
⟨(some 98), none, (.p (.bin .add (.tmp 97) (.c (.int .i64 1)))), 0, []⟩,
⟨(some 10), none, (.p (.mv (.tmp 98))), 0, []⟩])
(.seq
(.ops [⟨(some 99), none, (.p (.mv (.tmp 5))), 0, []⟩,
⟨(some 100), none, (.r (.load 1 false (.glob 4))), 0, []⟩,
⟨(some 101), none, (.p (.bin .leq (.tmp 99) (.tmp 100))), 0, []⟩,
⟨(some 102), none, (.p (.mv (.tmp 101))), 0, []⟩,
⟨(some 103), (some (102, true)), (.p (.mv (.tmp 10))), 0, []⟩,
⟨(some 104), (some (102, true)), (.p (.mv (.tmp 8))), 0, []⟩,
⟨(some 105), (some (102, true)), (.h (.call (.c (.fn 113 [] [])) [(.tmp 104)])), 0, []⟩,
⟨(some 106), (some (102, true)), (.p (.bin .gtr (.tmp 103) (.tmp 105))), 0, []⟩,
⟨(some 107), none, (.p (.pick (.tmp 102) (.tmp 106) (.c (.bool false)))), 0, []⟩])
(.cond (.tmp 107)
(.seq
(.ops [⟨(some 108), none, (.p (.mv (.tmp 0))), 0, []⟩,
⟨(some 109), none, (.p (.mv (.tmp 8))), 0, []⟩,
⟨(some 110), none, (.p (.subStr (.tmp 108) (some (.tmp 109)) none)), 0, []⟩,
⟨(some 111), none, (.p (.mv (.tmp 1))), 0, []⟩,
⟨(some 112), none, (.r (.idxSub 4 (.tmp 110) (.tmp 111))), 0, []⟩,
⟨(some 12), none, (.p (.mv (.tmp 112))), 0, []⟩])
(.seq
(.seq
(.ops [⟨(some 113), none, (.p (.mv (.tmp 12))), 0, []⟩,
⟨(some 114), none, (.p (.bin .geq (.tmp 113) (.c (.int .i64 0)))), 0, []⟩])
(.cond (.tmp 114)
(.seq
(.ops [⟨(some 115), none, (.p (.mv (.tmp 12))), 0, []⟩,
⟨(some 116), none, (.p (.mv (.tmp 8))), 0, []⟩,
⟨(some 117), none, (.p (.bin .add (.tmp 115) (.tmp 116))), 0, []⟩,
⟨(some 4), none, (.p (.mv (.tmp 117))), 0, []⟩])
.ret)
.skip))
(.seq
(.ops [⟨(some 4), none, (.p (.mv (.c (.int .i64 (-1))))), 0, []⟩])
.ret)))
(.seq
(.ops [⟨(some 118), none, (.p (.mv (.tmp 5))), 0, []⟩,
⟨(some 119), none, (.r (.load 1 false (.glob 4))), 0, []⟩,
⟨(some 120), none, (.p (.bin .gtr (.tmp 118) (.tmp 119))), 0, []⟩,
⟨(some 121), none, (.p (.mv (.tmp 120))), 0, []⟩,
⟨(some 122), (some (121, true)), (.p (.mv (.tmp 10))), 0, []⟩,
⟨(some 123), (some (121, true)), (.p (.mv (.tmp 8))), 0, []⟩,
⟨(some 124), (some (121, true)), (.p (.bin .shr (.tmp 123) (.c (.int .u64 4)))), 0, []⟩,
⟨(some 125), (some (121, true)), (.p (.bin .add (.c (.int .i64 4)) (.tmp 124))), 0, []⟩,
⟨(some 126), (some (121, true)), (.p (.bin .geq (.tmp 122) (.tmp 125))), 0, []⟩,
⟨(some 127), none, (.p (.pick (.tmp 121) (.tmp 126) (.c (.bool false)))), 0, []⟩,
⟨(some 128), none, (.p (.mv (.tmp 127))), 0, []⟩,
⟨(some 129), (some (128, true)), (.p (.mv (.tmp 8))), 0, []⟩,
⟨(some 130), (some (128, true)), (.p (.mv (.tmp 9))), 0, []⟩,
⟨(some 131), (some (128, true)), (.p (.bin .lss (.tmp 129) (.tmp 130))), 0, []⟩,
⟨(some 132), none, (.p (.pick (.tmp 128) (.tmp 131) (.c (.bool false)))), 0, []⟩])
(.cond (.tmp 132)
(.seq
(.ops [⟨(some 133), none, (.p (.mv (.tmp 0))), 0, []⟩,
⟨(some 134), none, (.p (.mv (.tmp 8))), 0, []⟩,
⟨(some 135), none, (.p (.subStr (.tmp 133) (some (.tmp 134)) none)), 0, []⟩,
⟨(some 136), none, (.p (.mv (.tmp 1))), 0, []⟩,
⟨(some 137), none, (.h (.call (.c (.fn 114 [] [])) [(.tmp 135), (.tmp 136)])), 0, []⟩,
⟨(some 13), none, (.p (.mv (.tmp 137))), 0, []⟩])
(.seq
(.seq
(.ops [⟨(some 138), none, (.p (.mv (.tmp 13))), 0, []⟩,
⟨(some 139), none, (.p (.bin .lss (.tmp 138) (.c (.int .i64 0)))), 0, []⟩])
(.cond (.tmp 139)
(.seq
(.ops [⟨(some 4), none, (.p (.mv (.c (.int .i64 (-1))))), 0, []⟩])
.ret)
.skip))
(.seq
(.ops [⟨(some 140), none, (.p (.mv (.tmp 8))), 0, []⟩,
⟨(some 141), none, (.p (.mv (.tmp 13))), 0, []⟩,
⟨(some 142), none, (.p (.bin .add (.tmp 140) (.tmp 141))), 0, []⟩,
⟨(some 4), none, (.p (.mv (.tmp 142))), 0, []⟩])
.ret)))
.skip))))))))))))
(.seq
(.ops [⟨(some 4), none, (.p (.mv (.c (.int .i64 (-1))))), 0, []⟩])
.ret))))))))))⟩
theorem c102 : Mir.compF Tryz.prog Tryz.f102 = some g102 := by kernel_rfl
/-- (*scribe/parse.parser).listed -/
def g104 : Mir.Fn := ⟨90, [(.tmp 2)],
(.seq
(.ops [⟨(some 2), none, (.p (.mv (.c (.bool false)))), 0, []⟩])
(.seq
(.seq
(.ops [⟨(some 7), none, (.p (.mv (.tmp 0))), 0, []⟩,
⟨(some 8), none, (.a (.mkSl [(.str [])] 1 1 [(0, (1, (.c (.str [40]))))])), 0, []⟩,
⟨(some 9), none, (.h (.call (.c (.fn 26 [] [])) [(.tmp 7), (.tmp 8)])), 0, []⟩,
⟨(some 10), none, (.p (.un .not (.tmp 9))), 0, []⟩])
(.cond (.tmp 10)
(.seq
(.ops [⟨(some 2), none, (.p (.mv (.c (.bool false)))), 0, []⟩])
.ret)
.skip))
(.seq
(.ops [⟨(some 3), none, (.p (.mv (.c (.int .i64 0)))), 0, []⟩])
(.seq
(.seq
(.ops [⟨(some 11), none, (.p (.mv (.tmp 0))), 0, []⟩,
⟨(some 12), none, (.p (.nilchk (.tmp 11))), 0, []⟩,
⟨(some 13), none, (.p (.fieldAt 1 (.tmp 12))), 0, []⟩,
⟨(some 14), none, (.r (.load 1 false (.tmp 13))), 0, []⟩,
⟨(some 4), none, (.p (.mv (.tmp 14))), 0, []⟩])
(.block 0 (.loop (.seq
(.seq
(.ops [⟨(some 15), none, (.p (.mv (.tmp 4))), 0, []⟩,
⟨(some 16), none, (.p (.mv (.tmp 0))), 0, []⟩,
⟨(some 17), none, (.p (.nilchk (.tmp 16))), 0, []⟩,
⟨(some 18), none, (.p (.fieldAt 0 (.tmp 17))), 0, []⟩,
⟨(some 19), none, (.r (.load 1 false (.tmp 18))), 0, []⟩,
⟨(some 20), none, (.p (.lenSl (.tmp 19))), 0, []⟩,
⟨(some 21), none, (.p (.bin .lss (.tmp 15) (.tmp 20))), 0, []⟩])
(.cond (.tmp 21)
.skip
(.exit 0)))
(.seq
(.block 1 (.seq
(.ops [⟨(some 24), none, (.p (.mv (.tmp 0))), 0, []⟩,
⟨(some 25), none, (.p (.nilchk (.tmp 24))), 0, []⟩,
⟨(some 26), none, (.p (.fieldAt 0 (.tmp 25))), 0, []⟩,
⟨(some 27), none, (.r (.load 1 false (.tmp 26))), 0, []⟩,
⟨(some 28), none, (.p (.mv (.tmp 4))), 0, []⟩,
⟨(some 29), none, (.p (.idxSl 3 (.tmp 27) (.tmp 28))), 0, []⟩,
⟨(some 30), none, (.r (.load 3 true (.tmp 29))), 0, []⟩,
⟨(some 5), none, (.a (.alloc [(.int .i64 0), (.str []), (.int .i64 0)])), 0, []⟩,
⟨none, none, (.h (.store 3 (.tmp 5) (.tmp 30))), 0, []⟩])
(.seq
(.block 2 (.seq
(.ops [⟨(some 32), none, (.p (.fieldAt 0 (.tmp 5))), 0, []⟩,
⟨(some 33), none, (.r (.load 1 false (.tmp 32))), 0, []⟩,
⟨(some 34), none, (.p (.bin .eql (.tmp 33) (.c (.int .i64 8)))), 0, []⟩,
⟨(some 35), none, (.p (.mv (.tmp 34))), 0, []⟩,
⟨(some 36), (some (35, true)), (.p (.fieldAt 1 (.tmp 5))), 0, []⟩,
⟨(some 37), (some (35, true)), (.r (.load 1 false (.tmp 36))), 0, []⟩,
⟨(some 38), (some (35, true)), (.p (.bin .eql (.tmp 37) (.c (.str [40])))), 0, []⟩,
⟨(some 39), none, (.p (.pick (.tmp 35) (.tmp 38) (.c (.bool false)))), 0, []⟩,
⟨(some 31), none, (.p (.mv (.tmp 39))), 0, []⟩])
(.cond (.tmp 31)
(.ops [⟨(some 40), none, (.p (.mv (.tmp 3))), 0, []⟩,
⟨(some 41), none, (.p (.bin .add (.tmp 40) (.c (.int .i64 1)))), 0, []⟩,
⟨(some 3), none, (.p (.mv (.tmp 41))), 0, []⟩])
(.seq
(.ops [⟨(some 43), none, (.p (.fieldAt 0 (.tmp 5))), 0, []⟩,
⟨(some 44), none, (.r (.load 1 false (.tmp 43))), 0, []⟩,
⟨(some 45), none, (.p (.bin .eql (.tmp 44) (.c (.int .i64 8)))), 0, []⟩,
⟨(some 46), none, (.p (.mv (.tmp 45))), 0, []⟩,
⟨(some 47), (some (46, true)), (.p (.fieldAt 1 (.tmp 5))), 0, []⟩,
⟨(some 48), (some (46, true)), (.r (.load 1 false (.tmp 47))), 0, []⟩,
⟨(some 49), (some (46, true)), (.p (.bin .eql (.tmp 48) (.c (.str [41])))), 0, []⟩,
⟨(some 50), none, (.p (.pick (.tmp 46) (.tmp 49) (.c (.bool false)))), 0, []⟩,
⟨(some 42), none, (.p (.mv (.tmp 50))), 0, []⟩])
(.cond (.tmp 42)
(.ops [⟨(some 51), none, (.p (.mv (.tmp 3))), 0, []⟩,
⟨(some 52), none, (.p (.bin .sub (.tmp 51) (.c (.int .i64 1)))), 0, []⟩,
⟨(some 3), none, (.p (.mv (.tmp 52))), 0, []⟩])
.skip)))))
(.seq
(.ops [⟨(some 53), none, (.p (.mv (.tmp 3))), 0, []⟩,
⟨(some 54), none, (.p (.bin .eql (.tmp 53) (.c (.int .i64 0)))), 0, []⟩])
(.cond (.tmp 54)
(.seq
(.draw [⟨(some 55), none, (.p (.mv (.tmp 0))), 0, []⟩,
⟨(some 56), none, (.p (.nilchk (.tmp 55))), 1, []⟩,
⟨(some 57), none, (.p (.fieldAt 0 (.tmp 56))), 2, []⟩,
⟨(some 58), none, (.r (.load 1 false (.tmp 57))), 3, []⟩,
⟨(some 59), none, (.p (.mv (.tmp 4))), 4, []⟩,
⟨(some 60), none, (.p (.bin .add (.tmp 59) (.c (.int .i64 1)))), 5, []⟩,
⟨(some 61), none, (.p (.mv (.tmp 0))), 6, []⟩,
⟨(some 62), none, (.p (.nilchk (.tmp 61))), 7, []⟩,
⟨(some 63), none, (.p (.fieldAt 0 (.tmp 62))), 8, []⟩,
⟨(some 64), none, (.r (.load 1 false (.tmp 63))), 9, []⟩,
⟨(some 65), none, (.p (.lenSl (.tmp 64))), 10, []⟩,
⟨(some 66), none, (.p (.bin .sub (.tmp 65) (.c (.int .i64 1)))), 11, []⟩,
⟨(some 67), none, (.p (.mnmx false (.tmp 60) [(.tmp 66)])), 12, []⟩,
⟨(some 68), none, (.p (.idxSl 3 (.tmp 58) (.tmp 67))), 13, []⟩,
⟨(some 69), none, (.r (.load 3 true (.tmp 68))), 14, []⟩,
⟨(some 6), none, (.a (.alloc [(.int .i64 0), (.str []), (.int .i64 0)])), 15, []⟩,
⟨none, none, (.h (.store 3 (.tmp 6) (.tmp 69))), 16, []⟩])
(.seq
(.ops [⟨(some 70), none, (.p (.fieldAt 0 (.tmp 6))), 0, []⟩,
⟨(some 71), none, (.r (.load 1 false (.tmp 70))), 0, []⟩,
⟨(some 72), none, (.p (.bin .eql (.tmp 71) (.c (.int .i64 0)))), 0, []⟩,
⟨(some 73), none, (.p (.mv (.tmp 72))), 0, []⟩,
⟨(some 74), (some (73, false)), (.p (.fieldAt 0 (.tmp 6))), 0, []⟩,
⟨(some 75), (some (73, false)), (.r (.load 1 false (.tmp 74))), 0, []⟩,
⟨(some 76), (some (73, false)), (.p (.bin .eql (.tmp 75) (.c (.int .i64 1)))), 0, []⟩,
⟨(some 77), none, (.p (.pick (.tmp 73) (.c (.bool true)) (.tmp 76))), 0, []⟩,
⟨(some 78), none, (.p (.mv (.tmp 77))), 0, []⟩,
⟨(some 79), (some (78, false)), (.p (.fieldAt 0 (.tmp 6))), 0, []⟩,
⟨(some 80), (some (78, false)), (.r (.load 1 false (.tmp 79))), 0, []⟩,
⟨(some 81), (some (78, false)), (.p (.bin .eql (.tmp 80) (.c (.int .i64 8)))), 0, []⟩,
⟨(some 82), (some (78, false)), (.p (.mv (.tmp 81))), 0, []⟩,
⟨(some 83), (some (82, true)), (.p (.fieldAt 1 (.tmp 6))), 0, []⟩,
⟨(some 84), (some (82, true)), (.r (.load 1 false (.tmp 83))), 0, []⟩,
⟨(some 85), (some (82, true)), (.p (.bin .add (.c (.str [32])) (.tmp 84))), 0, []⟩,
⟨(some 86), (some (82, true)), (.p (.bin .add (.tmp 85) (.c (.str [32])))), 0, []⟩,
⟨(some 87), (some (82, true)), (.h (.call (.c (.fn 81 [] [])) [(.c (.str [32, 59, 32, 125, 32, 62, 32, 62, 62, 32])), (.tmp 86)])), 0, []⟩,
⟨(some 88), (some (78, false)), (.p (.pick (.tmp 82) (.tmp 87) (.c (.bool false)))), 0, []⟩,
⟨(some 89), none, (.p (.pick (.tmp 78) (.c (.bool true)) (.tmp 88))), 0, []⟩,
⟨(some 2), none, (.p (.mv (.tmp 89))), 0, []⟩])
.ret))
.skip)))))
(.ops [⟨(some 22), none, (.p (.mv (.tmp 4))), 0, []⟩,
⟨(some 23), none, (.p (.bin .add (.tmp 22) (.c (.int .i64 1)))), 0, []⟩,
⟨(some 4), none, (.p (.mv (.tmp 23))), 0, []⟩]))))))
(.seq
(.ops [⟨(some 2), none, (.p (.mv (.c (.bool false)))), 0, []⟩])
.ret)))))⟩
theorem c104 : Mir.compF Tryz.prog Tryz.f104 = some g104 := by kernel_rfl
/-- (*scribe/parse.parser).list -/
def g105 : Mir.Fn := ⟨50, [(.tmp 4)],
(.seq
(.ops [⟨(some 4), none, (.p (.mv (.c .nilsl))), 0, []⟩])
(.seq
(.ops [⟨(some 5), none, (.p (.mv (.c .nilsl))), 0, []⟩])
(.seq
(.ops [⟨(some 7), none, (.p (.mv (.tmp 0))), 0, []⟩,
⟨(some 8), none, (.p (.nilchk (.tmp 7))), 0, []⟩,
⟨(some 9), none, (.p (.fieldAt 3 (.tmp 8))), 0, []⟩,
⟨(some 10), none, (.r (.load 1 false (.tmp 9))), 0, []⟩,
⟨(some 6), none, (.p (.mv (.tmp 10))), 0, []⟩])
(.seq
(.ops [⟨(some 11), none, (.p (.mv (.tmp 0))), 0, []⟩,
⟨(some 12), none, (.p (.nilchk (.tmp 11))), 0, []⟩,
⟨(some 13), none, (.p (.fieldAt 3 (.tmp 12))), 0, []⟩,
⟨none, none, (.h (.store 1 (.tmp 13) (.c (.bool false)))), 0, []⟩])
(.seq
(.ops [⟨(some 14), none, (.p (.mv (.tmp 0))), 0, []⟩,
⟨(some 15), none, (.h (.call (.c (.fn 45 [] [])) [(.tmp 14)])), 0, []⟩])
(.seq
(.block 0 (.loop (.seq
(.seq
(.ops [⟨(some 16), none, (.p (.mv (.tmp 0))), 0, []⟩,
⟨(some 17), none, (.p (.nilchk (.tmp 16))), 0, []⟩,
⟨(some 18), none, (.p (.fieldAt 4 (.tmp 17))), 0, []⟩,
⟨(some 19), none, (.r (.load 1 false (.tmp 18))), 0, []⟩,
⟨(some 20), none, (.p (.bin .eql (.tmp 19) (.c (.int .i64 0)))), 0, []⟩,
⟨(some 21), none, (.p (.mv (.tmp 20))), 0, []⟩,
⟨(some 22), (some (21, true)), (.p (.mv (.tmp 0))), 0, []⟩,
⟨(some 23), (some (21, true)), (.p (.mv (.tmp 1))), 0, []⟩,
⟨(some 24), (some (21, true)), (.a (.mkSl [(.str [])] 1 1 [(0, (1, (.tmp 23)))])), 0, []⟩,
⟨(some 25), (some (21, true)), (.h (.call (.c (.fn 26 [] [])) [(.tmp 22), (.tmp 24)])), 0, []⟩,
⟨(some 26), (some (21, true)), (.p (.un .not (.tmp 25))), 0, []⟩,
⟨(some 27), none, (.p (.pick (.tmp 21) (.tmp 26) (.c (.bool false)))), 0, []⟩])
(.cond (.tmp 27)
.skip
(.exit 0)))
(.block 1 (.seq
(.seq
(.ops [⟨(some 28), none, (.p (.mv (.tmp 5))), 0, []⟩,
⟨(some 29), none, (.p (.lenSl (.tmp 28))), 0, []⟩,
⟨(some 30), none, (.p (.bin .gtr (.tmp 29) (.c (.int .i64 0)))), 0, []⟩])
(.cond (.tmp 30)
(.seq
(.ops [⟨(some 31), none, (.p (.mv (.tmp 0))), 0, []⟩,
⟨(some 32), none, (.h (.call (.c (.fn 44 [] [])) [(.tmp 31), (.c (.str [44]))])), 0, []⟩])
(.ops [⟨(some 33), none, (.p (.mv (.tmp 0))), 0, []⟩,
⟨(some 34), none, (.h (.call (.c (.fn 45 [] [])) [(.tmp 33)])), 0, []⟩]))
.skip))
(.seq
(.ops [⟨(some 35), none, (.p (.mv (.tmp 5))), 0, []⟩,
⟨(some 36), none, (.p (.mv (.tmp 0))), 0, []⟩,
⟨(some 37), none, (.h (.call (.c (.fn 46 [] [])) [(.tmp 36)])), 0, []⟩,
⟨(some 38), none, (.a (.mkSl [(.str []), (.str []), (.int .i64 0), .nilsl] 4 1 [(0, (4, (.tmp 37)))])), 0, []⟩,
⟨(some 39), none, (.h (.app 4 64 (.tmp 35) (.tmp 38))), 0, []⟩,
⟨(some 5), none, (.p (.mv (.tmp 39))), 0, []⟩])
(.ops [⟨(some 40), none, (.p (.mv (.tmp 0))), 0, []⟩,
⟨(some 41), none, (.h (.call (.c (.fn 45 [] [])) [(.tmp 40)])), 0, []⟩])))))))
(.seq
(.ops [⟨(some 42), none, (.p (.mv (.tmp 0))), 0, []⟩,
⟨(some 43), none, (.p (.mv (.tmp 1))), 0, []⟩,
⟨(some 44), none, (.h (.call (.c (.fn 44 [] [])) [(.tmp 42), (.tmp 43)])), 0, []⟩])
(.seq
(.ops [⟨(some 45), none, (.p (.mv (.tmp 0))), 0, []⟩,
⟨(some 46), none, (.p (.mv (.tmp 6))), 0, []⟩,
⟨(some 47), none, (.p (.nilchk (.tmp 45))), 0, []⟩,
⟨(some 48), none, (.p (.fieldAt 3 (.tmp 47))), 0, []⟩,
⟨none, none, (.h (.store 1 (.tmp 48) (.tmp 46))), 0, []⟩])
(.seq
(.ops [⟨(some 49), none, (.p (.mv (.tmp 5))), 0, []⟩,
⟨(some 4), none, (.p (.mv (.tmp 49))), 0, []⟩])
.ret)))))))))⟩
theorem c105 : Mir.compF Tryz.prog Tryz.f105 = some g105 := by kernel_rfl
/-- (*scribe/parse.parser).cat -/
def g106 : Mir.Fn := ⟨26, [(.cell 2 4 true)],
(.seq
(.ops [⟨(some 2), none, (.a (.alloc [(.str []), (.str []), (.int .i64 0), .nilsl])), 0, []⟩])
(.seq
(.ops [⟨(some 5), none, (.p (.mv (.tmp 0))), 0, []⟩,
⟨(some 6), none, (.h (.call (.c (.fn 115 [] [])) [(.tmp 5)])), 0, []⟩,
⟨(some 3), none, (.a (.alloc [(.str []), (.str []), (.int .i64 0), .nilsl])), 0, []⟩,
⟨none, none, (.h (.store 4 (.tmp 3) (.tmp 6))), 0, []⟩])
(.block 0 (.loop (.block 1 (.seq
(.ops [⟨(some 7), none, (.p (.mv (.tmp 0))), 0, []⟩,
⟨(some 8), none, (.h (.call (.c (.fn 27 [] [])) [(.tmp 7)])), 0, []⟩,
⟨(some 4), none, (.a (.alloc [(.int .i64 0), (.str []), (.int .i64 0)])), 0, []⟩,
⟨none, none, (.h (.store 3 (.tmp 4) (.tmp 8))), 0, []⟩])
(.seq
(.seq
(.ops [⟨(some 9), none, (.a (.mkSl [(.int .i64 0)] 1 5 [(0, (1, (.c (.int .i64 2)))), (1, (1, (.c (.int .i64 3)))), (2, (1, (.c (.int .i64 5)))), (3, (1, (.c (.int .i64 6)))), (4, (1, (.c (.int .i64 9))))])), 0, []⟩,
⟨(some 10), none, (.p (.fieldAt 0 (.tmp 4))), 0, []⟩,
⟨(some 11), none, (.r (.load 1 false (.tmp 10))), 0, []⟩,
⟨(some 12), none, (.h (.call (.c (.fn 70 [] [])) [(.tmp 9), (.tmp 11)])), 0, []⟩,
⟨(some 13), none, (.p (.un .not (.tmp 12))), 0, []⟩,
⟨(some 14), none, (.p (.mv (.tmp 13))), 0, []⟩,
⟨(some 15), (some (14, true)), (.p (.mv (.tmp 0))), 0, []⟩,
⟨(some 16), (some (14, true)), (.a (.mkSl [(.str [])] 1 2 [(0, (1, (.c (.str [36])))), (1, (1, (.c (.str [40]))))])), 0, []⟩,
⟨(some 17), (some (14, true)), (.h (.call (.c (.fn 26 [] [])) [(.tmp 15), (.tmp 16)])), 0, []⟩,
⟨(some 18), (some (14, true)), (.p (.un .not (.tmp 17))), 0, []⟩,
⟨(some 19), none, (.p (.pick (.tmp 14) (.tmp 18) (.c (.bool false)))), 0, []⟩])
(.cond (.tmp 19)
(.seq
(.ops [⟨(some 20), none, (.r (.load 4 true (.tmp 3))), 0, []⟩,
⟨none, none, (.h (.store 4 (.tmp 2) (.tmp 20))), 0, []⟩])
.ret)
.skip))
(.draw [⟨(some 21), none, (.r (.load 4 true (.tmp 3))), 0, []⟩,
⟨(some 22), none, (.p (.mv (.tmp 0))), 1, []⟩,
⟨(some 23), none, (.h (.call (.c (.fn 115 [] [])) [(.tmp 22)])), 2, [0]⟩,
⟨(some 24), none, (.a (.mkSl [(.str []), (.str []), (.int .i64 0), .nilsl] 4 2 [(0, (4, (.tmp 21))), (4, (4, (.tmp 23)))])), 3, []⟩,
⟨(some 25), none, (.h (.call (.c (.fn 25 [] [])) [(.c (.str [99, 97, 116])), (.tmp 24)])), 4, []⟩,
⟨none, none, (.h (.store 4 (.tmp 3) (.tmp 25))), 5, []⟩]))))))))⟩
theorem c106 : Mir.compF Tryz.prog Tryz.f106 = some g106 := by kernel_rfl
/-- (*scribe/parse.parser).match -/
def g107 : Mir.Fn := ⟨9, [(.cell 2 4 true)],
(.seq
(.ops [⟨(some 2), none, (.a (.alloc [(.str []), (.str []), (.int .i64 0), .nilsl])), 0, []⟩])
(.seq
(.ops [⟨(some 3), none, (.p (.mv (.tmp 0))), 0, []⟩,
⟨(some 4), none, (.p (.mv (.tmp 0))), 0, []⟩,
⟨(some 5), none, (.p (.mkFn 116 [(.tmp 4)] [])), 0, []⟩,
⟨(some 6), none, (.a .mkMap), 0, []⟩,
⟨none, none, (.h (.mapUpd (.one .str) (.tmp 6) (.c (.str [126])) (.c (.str [109, 97, 116, 99, 104])))), 0, []⟩,
⟨none, none, (.h (.mapUpd (.one .str) (.tmp 6) (.c (.str [33, 126])) (.c (.str [110, 111, 109, 97, 116, 99, 104])))), 0, []⟩,
⟨(some 7), none, (.p (.mv (.tmp 6))), 0, []⟩,
⟨(some 8), none, (.h (.call (.c (.fn 90 [] [])) [(.tmp 3), (.tmp 5), (.c (.bool false)), (.tmp 7)])), 0, []⟩,
⟨none, none, (.h (.store 4 (.tmp 2) (.tmp 8))), 0, []⟩])
.ret))⟩
theorem c107 : Mir.compF Tryz.prog Tryz.f107 = some g107 := by kernel_rfl
/-- internal/strconv.small -/
def g108 : Mir.Fn := ⟨15, [(.tmp 2)],
(.seq
(.ops [⟨(some 2), none, (.p (.mv (.c (.str [])))), 0, []⟩])
(.seq
(.seq
(.ops [⟨(some 3), none, (.p (.mv (.tmp 0))), 0, []⟩,
⟨(some 4), none, (.p (.bin .lss (.tmp 3) (.c (.int .i64 10)))), 0, []⟩])
(.cond (.tmp 4)
(.seq
(.ops [⟨(some 5), none, (.p (.mv (.tmp 0))), 0, []⟩,
⟨(some 6), none, (.p (.mv (.tmp 0))), 0, []⟩,
⟨(some 7), none, (.p (.bin .add (.tmp 6) (.c (.int .i64 1)))), 0, []⟩,
⟨(some 8), none, (.p (.subStr (.c (.str [48, 49, 50, 51, 52, 53, 54, 55, 56, 57, 97, 98, 99, 100, 101, 102, 103, 104, 105, 106, 107, 108, 109, 110, 111, 112, 113, 114, 115, 116, 117, 118, 119, 120, 121, 122])) (some (.tmp 5)) (some (.tmp 7)))), 0, []⟩,
⟨(some 2), none, (.p (.mv (.tmp 8))), 0, []⟩])
.ret)
.skip))
(.seq
(.ops [⟨(some 9), none, (.p (.mv (.tmp 0))), 0, []⟩,
⟨(some 10), none, (.p (.bin .mul (.tmp 9) (.c (.int .i64 2)))), 0, []⟩,
⟨(some 11), none, (.p (.mv (.tmp 0))), 0, []⟩,
⟨(some 12), none, (.p (.bin .mul (.tmp 11) (.c (.int .i64 2)))), 0, []⟩,
⟨(some 13), none, (.p (.bin .add (.tmp 12) (.c (.int .i64 2)))), 0, []⟩,
⟨(some 14), none, (.p (.subStr (.c (.str [48, 48, 48, 49, 48, 50, 48, 51, 48, 52, 48, 53, 48, 54, 48, 55, 48, 56, 48, 57, 49, 48, 49, 49, 49, 50, 49, 51, 49, 52, 49, 53, 49, 54, 49, 55, 49, 56, 49, 57, 50, 48, 50, 49, 50, 50, 50, 51, 50, 52, 50, 53, 50, 54, 50, 55, 50, 56, 50, 57, 51, 48, 51, 49, 51, 50, 51, 51, 51, 52, 51, 53, 51, 54, 51, 55, 51, 56, 51, 57, 52, 48, 52, 49, 52, 50, 52, 51, 52, 52, 52, 53, 52, 54, 52, 55, 52, 56, 52, 57, 53, 48, 53, 49, 53, 50, 53, 51, 53, 52, 53, 53, 53, 54, 53, 55, 53, 56, 53, 57, 54, 48, 54, 49, 54, 50, 54, 51, 54, 52, 54, 53, 54, 54, 54, 55, 54, 56, 54, 57, 55, 48, 55, 49, 55, 50, 55, 51, 55, 52, 55, 53, 55, 54, 55, 55, 55, 56, 55, 57, 56, 48, 56, 49, 56, 50, 56, 51, 56, 52, 56, 53, 56, 54, 56, 55, 56, 56, 56, 57, 57, 48, 57, 49, 57, 50, 57, 51, 57, 52, 57, 53, 57, 54, 57, 55, 57, 56, 57, 57])) (some (.tmp 10)) (some (.tmp 13)))), 0, []⟩,
⟨(some 2), none, (.p (.mv (.tmp 14))), 0, []⟩])
.ret)))⟩
theorem c108 : Mir.compF Tryz.prog Tryz.f108 = some g108 := by kernel_rfl
/-- internal/strconv.numDigits -/
def g109 : Mir.Fn := ⟨15, [(.tmp 2)],
(.seq
(.ops [⟨(some 2), none, (.p (.mv (.c (.int .i64 0)))), 0, []⟩])
(.seq
(.ops [⟨(some 4), none, (.p (.mv (.tmp 0))), 0, []⟩,
⟨(some 5), none, (.h (.call (.c (.fn 118 [] [])) [(.tmp 4)])), 0, []⟩,
⟨(some 6), none, (.h (.call (.c (.fn 117 [] [])) [(.tmp 5)])), 0, []⟩,
⟨(some 3), none, (.p (.mv (.tmp 6))), 0, []⟩])
(.seq
(.ops [⟨(some 7), none, (.p (.mv (.tmp 3))), 0, []⟩,
⟨(some 8), none, (.p (.mv (.tmp 0))), 0, []⟩,
⟨(some 9), none, (.p (.mv (.tmp 3))), 0, []⟩,
⟨(some 10), none, (.p (.idxArr 20 1 (.glob 5) (.tmp 9))), 0, []⟩,
⟨(some 11), none, (.r (.load 1 false (.tmp 10))), 0, []⟩,
⟨(some 12), none, (.p (.bin .geq (.tmp 8) (.tmp 11))), 0, []⟩,
⟨(some 13), none, (.h (.call (.c (.fn 119 [] [])) [(.tmp 12)])), 0, []⟩,
⟨(some 14), none, (.p (.bin .add (.tmp 7) (.tmp 13))), 0, []⟩,
⟨(some 2), none, (.p (.mv (.tmp 14))), 0, []⟩])
.ret)))⟩
theorem c109 : Mir.compF Tryz.prog Tryz.f109 = some g109 := by kernel_rfl
/-- internal/strconv.formatBase10 -/
def g110 : Mir.Fn := ⟨167, [],
(.seq
(.ops [⟨(some 17), none, (.p (.mv (.tmp 0))), 0, []⟩,
⟨(some 18), none, (.p (.lenSl (.tmp 17))), 0, []⟩,
⟨(some 4), none, (.p (.mv (.tmp 18))), 0, []⟩])
(.seq
(.block 0 (.loop (.seq
(.seq
(.ops [⟨(some 19), none, (.p (.mv (.tmp 4))), 0, []⟩,
⟨(some 20), none, (.p (.bin .geq (.tmp 19) (.c (.int .i64 8)))), 0, []⟩])
(.cond (.tmp 20)
.skip
(.exit 0)))
(.block 1 (.seq
(.ops [⟨(some 21), none, (.p (.mv (.tmp 1))), 0, []⟩,
⟨(some 22), none, (.p (.bin .rem (.tmp 21) (.c (.int .u64 100000000)))), 0, []⟩,
⟨(some 23), none, (.p (.convInt .u32 (.tmp 22))), 0, []⟩,
⟨(some 5), none, (.p (.mv (.tmp 23))), 0, []⟩])
(.seq
(.ops [⟨(some 24), none, (.p (.mv (.tmp 1))), 0, []⟩,
⟨(some 25), none, (.p (.bin .quo (.tmp 24) (.c (.int .u64 100000000)))), 0, []⟩,
⟨(some 1), none, (.p (.mv (.tmp 25))), 0, []⟩])
(.seq
(.ops [⟨(some 26), none, (.p (.mv (.tmp 5))), 0, []⟩,
⟨(some 27), none, (.p (.bin .quo (.tmp 26) (.c (.int .u32 10000)))), 0, []⟩,
⟨(some 28), none, (.p (.mv (.tmp 5))), 0, []⟩,
⟨(some 29), none, (.p (.bin .rem (.tmp 28) (.c (.int .u32 10000)))), 0, []⟩,
⟨(some 6), none, (.p (.mv (.tmp 27))), 0, []⟩,
⟨(some 7), none, (.p (.mv (.tmp 29))), 0, []⟩])
(.seq
(.ops [⟨(some 30), none, (.p (.mv (.tmp 7))), 0, []⟩,
⟨(some 31), none, (.p (.bin .quo (.tmp 30) (.c (.int .u32 100)))), 0, []⟩,
⟨(some 32), none, (.p (.bin .mul (.tmp 31) (.c (.int .u32 2)))), 0, []⟩,
⟨(some 33), none, (.p (.mv (.tmp 7))), 0, []⟩,
⟨(some 34), none, (.p (.bin .rem (.tmp 33) (.c (.int .u32 100)))), 0, []⟩,
⟨(some 35), none, (.p (.bin .mul (.tmp 34) (.c (.int .u32 2)))), 0, []⟩,
⟨(some 8), none, (.p (.mv (.tmp 32))), 0, []⟩,
⟨(some 9), none, (.p (.mv (.tmp 35))), 0, []⟩])
(.seq
(.ops [⟨(some 36), none, (.p (.mv (.tmp 6))), 0, []⟩,
⟨(some 37), none, (.p (.bin .quo (.tmp 36) (.c (.int .u32 100)))), 0, []⟩,
⟨(some 38), none, (.p (.bin .mul (.tmp 37) (.c (.int .u32 2)))), 0, []⟩,
⟨(some 39), none, (.p (.mv (.tmp 6))), 0, []⟩,
⟨(some 40), none, (.p (.bin .rem (.tmp 39) (.c (.int .u32 100)))), 0, []⟩,
⟨(some 41), none, (.p (.bin .mul (.tmp 40) (.c (.int .u32 2)))), 0, []⟩,
⟨(some 10), none, (.p (.mv (.tmp 38))), 0, []⟩,
⟨(some 11), none, (.p (.mv (.tmp 41))), 0, []⟩])
(.seq
(.draw [⟨(some 42), none, (.p (.mv (.tmp 0))), 0, []⟩,
⟨(some 43), none, (.p (.mv (.tmp 4))), 1, []⟩,
⟨(some 44), none, (.p (.bin .sub (.tmp 43) (.c (.int .i64 1)))), 2, []⟩,
⟨(some 45), none, (.p (.mv (.tmp 0))), 3, []⟩,
⟨(some 46), none, (.p (.mv (.tmp 4))), 4, []⟩,
⟨(some 47), none, (.p (.bin .sub (.tmp 46) (.c (.int .i64 2)))), 5, []⟩,
⟨(some 48), none, (.p (.mv (.tmp 9))), 6, []⟩,
⟨(some 49), none, (.p (.bin .add (.tmp 48) (.c (.int .u32 1)))), 7, []⟩,
⟨(some 50), none, (.p (.idxStr (.c (.str [48, 48, 48, 49, 48, 50, 48, 51, 48, 52, 48, 53, 48, 54, 48, 55, 48, 56, 48, 57, 49, 48, 49, 49, 49, 50, 49, 51, 49, 52, 49, 53, 49, 54, 49, 55, 49, 56, 49, 57, 50, 48, 50, 49, 50, 50, 50, 51, 50, 52, 50, 53, 50, 54, 50, 55, 50, 56, 50, 57, 51, 48, 51, 49, 51, 50, 51, 51, 51, 52, 51, 53, 51, 54, 51, 55, 51, 56, 51, 57, 52, 48, 52, 49, 52, 50, 52, 51, 52, 52, 52, 53, 52, 54, 52, 55, 52, 56, 52, 57, 53, 48, 53, 49, 53, 50, 53, 51, 53, 52, 53, 53, 53, 54, 53, 55, 53, 56, 53, 57, 54, 48, 54, 49, 54, 50, 54, 51, 54, 52, 54, 53, 54, 54, 54, 55, 54, 56, 54, 57, 55, 48, 55, 49, 55, 50, 55, 51, 55, 52, 55, 53, 55, 54, 55, 55, 55, 56, 55, 57, 56, 48, 56, 49, 56, 50, 56, 51, 56, 52, 56, 53, 56, 54, 56, 55, 56, 56, 56, 57, 57, 48, 57, 49, 57, 50, 57, 51, 57, 52, 57, 53, 57, 54, 57, 55, 57, 56, 57, 57])) (.tmp 49))), 8, []⟩,
⟨(some 51), none, (.p (.mv (.tmp 9))), 9, []⟩,
⟨(some 52), none, (.p (.idxStr (.c (.str [48, 48, 48, 49, 48, 50, 48, 51, 48, 52, 48, 53, 48, 54, 48, 55, 48, 56, 48, 57, 49, 48, 49, 49, 49, 50, 49, 51, 49, 52, 49, 53, 49, 54, 49, 55, 49, 56, 49, 57, 50, 48, 50, 49, 50, 50, 50, 51, 50, 52, 50, 53, 50, 54, 50, 55, 50, 56, 50, 57, 51, 48, 51, 49, 51, 50, 51, 51, 51, 52, 51, 53, 51, 54, 51, 55, 51, 56, 51, 57, 52, 48, 52, 49, 52, 50, 52, 51, 52, 52, 52, 53, 52, 54, 52, 55, 52, 56, 52, 57, 53, 48, 53, 49, 53, 50, 53, 51, 53, 52, 53, 53, 53, 54, 53, 55, 53, 56, 53, 57, 54, 48, 54, 49, 54, 50, 54, 51, 54, 52, 54, 53, 54, 54, 54, 55, 54, 56, 54, 57, 55, 48, 55, 49, 55, 50, 55, 51, 55, 52, 55, 53, 55, 54, 55, 55, 55, 56, 55, 57, 56, 48, 56, 49, 56, 50, 56, 51, 56, 52, 56, 53, 56, 54, 56, 55, 56, 56, 56, 57, 57, 48, 57, 49, 57, 50, 57, 51, 57, 52, 57, 53, 57, 54, 57, 55, 57, 56, 57, 57])) (.tmp 51))), 10, []⟩,
⟨(some 53), none, (.p (.idxSl 1 (.tmp 42) (.tmp 44))), 11, []⟩,
⟨none, none, (.h (.store 1 (.tmp 53) (.tmp 50))), 12, []⟩,
⟨(some 54), none, (.p (.idxSl 1 (.tmp 45) (.tmp 47))), 13, []⟩,
⟨none, none, (.h (.store 1 (.tmp 54) (.tmp 52))), 14, []⟩])
(.seq
(.draw [⟨(some 55), none, (.p (.mv (.tmp 0))), 0, []⟩,
⟨(some 56), none, (.p (.mv (.tmp 4))), 1, []⟩,
⟨(some 57), none, (.p (.bin .sub (.tmp 56) (.c (.int .i64 3)))), 2, []⟩,
⟨(some 58), none, (.p (.mv (.tmp 0))), 3, []⟩,
⟨(some 59), none, (.p (.mv (.tmp 4))), 4, []⟩,
⟨(some 60), none, (.p (.bin .sub (.tmp 59) (.c (.int .i64 4)))), 5, []⟩,
⟨(some 61), none, (.p (.mv (.tmp 8))), 6, []⟩,
⟨(some 62), none, (.p (.bin .add (.tmp 61) (.c (.int .u32 1)))), 7, []⟩,
⟨(some 63), none, (.p (.idxStr (.c (.str [48, 48, 48, 49, 48, 50, 48, 51, 48, 52, 48, 53, 48, 54, 48, 55, 48, 56, 48, 57, 49, 48, 49, 49, 49, 50, 49, 51, 49, 52, 49, 53, 49, 54, 49, 55, 49, 56, 49, 57, 50, 48, 50, 49, 50, 50, 50, 51, 50, 52, 50, 53, 50, 54, 50, 55, 50, 56, 50, 57, 51, 48, 51, 49, 51, 50, 51, 51, 51, 52, 51, 53, 51, 54, 51, 55, 51, 56, 51, 57, 52, 48, 52, 49, 52, 50, 52, 51, 52, 52, 52, 53, 52, 54, 52, 55, 52, 56, 52, 57, 53, 48, 53, 49, 53, 50, 53, 51, 53, 52, 53, 53, 53, 54, 53, 55, 53, 56, 53, 57, 54, 48, 54, 49, 54, 50, 54, 51, 54, 52, 54, 53, 54, 54, 54, 55, 54, 56, 54, 57, 55, 48, 55, 49, 55, 50, 55, 51, 55, 52, 55, 53, 55, 54, 55, 55, 55, 56, 55, 57, 56, 48, 56, 49, 56, 50, 56, 51, 56, 52, 56, 53, 56, 54, 56, 55, 56, 56, 56, 57, 57, 48, 57, 49, 57, 50, 57, 51, 57, 52, 57, 53, 57, 54, 57, 55, 57, 56, 57, 57])) (.tmp 62))), 8, []⟩,
⟨(some 64), none, (.p (.mv (.tmp 8))), 9, []⟩,
⟨(some 65), none, (.p (.idxStr (.c (.str [48, 48, 48, 49, 48, 50, 48, 51, 48, 52, 48, 53, 48, 54, 48, 55, 48, 56, 48, 57, 49, 48, 49, 49, 49, 50, 49, 51, 49, 52, 49, 53, 49, 54, 49, 55, 49, 56, 49, 57, 50, 48, 50, 49, 50, 50, 50, 51, 50, 52, 50, 53, 50, 54, 50, 55, 50, 56, 50, 57, 51, 48, 51, 49, 51, 50, 51, 51, 51, 52, 51, 53, 51, 54, 51, 55, 51, 56, 51, 57, 52, 48, 52, 49, 52, 50, 52, 51, 52, 52, 52, 53, 52, 54, 52, 55, 52, 56, 52, 57, 53, 48, 53, 49, 53, 50, 53, 51, 53, 52, 53, 53, 53, 54, 53, 55, 53, 56, 53, 57, 54, 48, 54, 49, 54, 50, 54, 51, 54, 52, 54, 53, 54, 54, 54, 55, 54, 56, 54, 57, 55, 48, 55, 49, 55, 50, 55, 51, 55, 52, 55, 53, 55, 54, 55, 55, 55, 56, 55, 57, 56, 48, 56, 49, 56, 50, 56, 51, 56, 52, 56, 53, 56, 54, 56, 55, 56, 56, 56, 57, 57, 48, 57, 49, 57, 50, 57, 51, 57, 52, 57, 53, 57, 54, 57, 55, 57, 56, 57, 57])) (.tmp 64))), 10, []⟩,
⟨(some 66), none, (.p (.idxSl 1 (.tmp 55) (.tmp 57))), 11, []⟩,
⟨none, none, (.h (.store 1 (.tmp 66) (.tmp 63))), 12, []⟩,
⟨(some 67), none, (.p (.idxSl 1 (.tmp 58) (.tmp 60))), 13, []⟩,
⟨none, none, (.h (.store 1 (.tmp 67) (.tmp 65))), 14, []⟩])
(.seq
(.draw [⟨(some 68), none, (.p (.mv (.tmp 0))), 0, []⟩,
⟨(some 69), none, (.p (.mv (.tmp 4))), 1, []⟩,
⟨(some 70), none, (.p (.bin .sub (.tmp 69) (.c (.int .i64 5)))), 2, []⟩,
⟨(some 71), none, (.p (.mv (.tmp 0))), 3, []⟩,
⟨(some 72), none, (.p (.mv (.tmp 4))), 4, []⟩,
⟨(some 73), none, (.p (.bin .sub (.tmp 72) (.c (.int .i64 6)))), 5, []⟩,
⟨(some 74), none, (.p (.mv (.tmp 11))), 6, []⟩,
⟨(some 75), none, (.p (.bin .add (.tmp 74) (.c (.int .u32 1)))), 7, []⟩,
⟨(some 76), none, (.p (.idxStr (.c (.str [48, 48, 48, 49, 48, 50, 48, 51, 48, 52, 48, 53, 48, 54, 48, 55, 48, 56, 48, 57, 49, 48, 49, 49, 49, 50, 49, 51, 49, 52, 49, 53, 49, 54, 49, 55, 49, 56, 49, 57, 50, 48, 50, 49, 50, 50, 50, 51, 50, 52, 50, 53, 50, 54, 50, 55, 50, 56, 50, 57, 51, 48, 51, 49, 51, 50, 51, 51, 51, 52, 51, 53, 51, 54, 51, 55, 51, 56, 51, 57, 52, 48, 52, 49, 52, 50, 52, 51, 52, 52, 52, 53, 52, 54, 52, 55, 52, 56, 52, 57, 53, 48, 53, 49, 53, 50, 53, 51, 53, 52, 53, 53, 53, 54, 53, 55, 53, 56, 53, 57, 54, 48, 54, 49, 54, 50, 54, 51, 54, 52, 54, 53, 54, 54, 54, 55, 54, 56, 54, 57, 55, 48, 55, 49, 55, 50, 55, 51, 55, 52, 55, 53, 55, 54, 55, 55, 55, 56, 55, 57, 56, 48, 56, 49, 56, 50, 56, 51, 56, 52, 56, 53, 56, 54, 56, 55, 56, 56, 56, 57, 57, 48, 57, 49, 57, 50, 57, 51, 57, 52, 57, 53, 57, 54, 57, 55, 57, 56, 57, 57])) (.tmp 75))), 8, []⟩,
⟨(some 77), none, (.p (.mv (.tmp 11))), 9, []⟩,
⟨(some 78), none, (.p (.idxStr (.c (.str [48, 48, 48, 49, 48, 50, 48, 51, 48, 52, 48, 53, 48, 54, 48, 55, 48, 56, 48, 57, 49, 48, 49, 49, 49, 50, 49, 51, 49, 52, 49, 53, 49, 54, 49, 55, 49, 56, 49, 57, 50, 48, 50, 49, 50, 50, 50, 51, 50, 52, 50, 53, 50, 54, 50, 55, 50, 56, 50, 57, 51, 48, 51, 49, 51, 50, 51, 51, 51, 52, 51, 53, 51, 54, 51, 55, 51, 56, 51, 57, 52, 48, 52, 49, 52, 50, 52, 51, 52, 52, 52, 53, 52, 54, 52, 55, 52, 56, 52, 57, 53, 48, 53, 49, 53, 50, 53, 51, 53, 52, 53, 53, 53, 54, 53, 55, 53, 56, 53, 57, 54, 48, 54, 49, 54, 50, 54, 51, 54, 52, 54, 53, 54, 54, 54, 55, 54, 56, 54, 57, 55, 48, 55, 49, 55, 50, 55, 51, 55, 52, 55, 53, 55, 54, 55, 55, 55, 56, 55, 57, 56, 48, 56, 49, 56, 50, 56, 51, 56, 52, 56, 53, 56, 54, 56, 55, 56, 56, 56, 57, 57, 48, 57, 49, 57, 50, 57, 51, 57, 52, 57, 53, 57, 54, 57, 55, 57, 56, 57, 57])) (.tmp 77))), 10, []⟩,
⟨(some 79), none, (.p (.idxSl 1 (.tmp 68) (.tmp 70))), 11, []⟩,
⟨none, none, (.h (.store 1 (.tmp 79) (.tmp 76))), 12, []⟩,
⟨(some 80), none, (.p (.idxSl 1 (.tmp 71) (.tmp 73))), 13, []⟩,
⟨none, none, (.h (.store 1 (.tmp 80) (.tmp 78))), 14, []⟩])
(.seq
(.draw [⟨(some 81), none, (.p (.mv (.tmp 0))), 0, []⟩,
⟨(some 82), none, (.p (.mv (.tmp 4))), 1, []⟩,
⟨(some 83), none, (.p (.bin .sub (.tmp 82) (.c (.int .i64 7)))), 2, []⟩,
⟨(some 84), none, (.p (.mv (.tmp 0))), 3, []⟩,
⟨(some 85), none, (.p (.mv (.tmp 4))), 4, []⟩,
⟨(some 86), none, (.p (.bin .sub (.tmp 85) (.c (.int .i64 8)))), 5, []⟩,
⟨(some 87), none, (.p (.mv (.tmp 10))), 6, []⟩,
⟨(some 88), none, (.p (.bin .add (.tmp 87) (.c (.int .u32 1)))), 7, []⟩,
⟨(some 89), none, (.p (.idxStr (.c (.str [48, 48, 48, 49, 48, 50, 48, 51, 48, 52, 48, 53, 48, 54, 48, 55, 48, 56, 48, 57, 49, 48, 49, 49, 49, 50, 49, 51, 49, 52, 49, 53, 49, 54, 49, 55, 49, 56, 49, 57, 50, 48, 50, 49, 50, 50, 50, 51, 50, 52, 50, 53, 50, 54, 50, 55, 50, 56, 50, 57, 51, 48, 51, 49, 51, 50, 51, 51, 51, 52, 51, 53, 51, 54, 51, 55, 51, 56, 51, 57, 52, 48, 52, 49, 52, 50, 52, 51, 52, 52, 52, 53, 52, 54, 52, 55, 52, 56, 52, 57, 53, 48, 53, 49, 53, 50, 53, 51, 53, 52, 53, 53, 53, 54, 53, 55, 53, 56, 53, 57, 54, 48, 54, 49, 54, 50, 54, 51, 54, 52, 54, 53, 54, 54, 54, 55, 54, 56, 54, 57, 55, 48, 55, 49, 55, 50, 55, 51, 55, 52, 55, 53, 55, 54, 55, 55, 55, 56, 55, 57, 56, 48, 56, 49, 56, 50, 56, 51, 56, 52, 56, 53, 56, 54, 56, 55, 56, 56, 56, 57, 57, 48, 57, 49, 57, 50, 57, 51, 57, 52, 57, 53, 57, 54, 57, 55, 57, 56, 57, 57])) (.tmp 88))), 8, []⟩,
⟨(some 90), none, (.p (.mv (.tmp 10))), 9, []⟩,
⟨(some 91), none, (.p (.idxStr (.c (.str [48, 48, 48, 49, 48, 50, 48, 51, 48, 52, 48, 53, 48, 54, 48, 55, 48, 56, 48, 57, 49, 48, 49, 49, 49, 50, 49, 51, 49, 52, 49, 53, 49, 54, 49, 55, 49, 56, 49, 57, 50, 48, 50, 49, 50, 50, 50, 51, 50, 52, 50, 53, 50, 54, 50, 55, 50, 56, 50, 57, 51, 48, 51, 49, 51, 50, 51, 51, 51, 52, 51, 53, 51, 54, 51, 55, 51, 56, 51, 57, 52, 48, 52, 49, 52, 50, 52, 51, 52, 52, 52, 53, 52, 54, 52, 55, 52, 56, 52, 57, 53, 48, 53, 49, 53, 50, 53, 51, 53, 52, 53, 53, 53, 54, 53, 55, 53, 56, 53, 57, 54, 48, 54, 49, 54, 50, 54, 51, 54, 52, 54, 53, 54, 54, 54, 55, 54, 56, 54, 57, 55, 48, 55, 49, 55, 50, 55, 51, 55, 52, 55, 53, 55, 54, 55, 55, 55, 56, 55, 57, 56, 48, 56, 49, 56, 50, 56, 51, 56, 52, 56, 53, 56, 54, 56, 55, 56, 56, 56, 57, 57, 48, 57, 49, 57, 50, 57, 51, 57, 52, 57, 53, 57, 54, 57, 55, 57, 56, 57, 57])) (.tmp 90))), 10, []⟩,
⟨(some 92), none, (.p (.idxSl 1 (.tmp 81) (.tmp 83))), 11, []⟩,
⟨none, none, (.h (.store 1 (.tmp 92) (.tmp 89))), 12, []⟩,
⟨(some 93), none, (.p (.idxSl 1 (.tmp 84) (.tmp 86))), 13, []⟩,
⟨none, none, (.h (.store 1 (.tmp 93) (.tmp 91))), 14, []⟩])
(.ops [⟨(some 94), none, (.p (.mv (.tmp 4))), 0, []⟩,
⟨(some 95), none, (.p (.bin .sub (.tmp 94) (.c (.int .i64 8)))), 0, []⟩,
⟨(some 4), none, (.p (.mv (.tmp 95))), 0, []⟩]))))))))))))))
(.seq
(.ops [⟨(some 96), none, (.p (.mv (.tmp 1))), 0, []⟩,
⟨(some 97), none, (.p (.convInt .u32 (.tmp 96))), 0, []⟩,
⟨(some 12), none, (.p (.mv (.tmp 97))), 0, []⟩])
(.seq
(.seq
(.ops [⟨(some 98), none, (.p (.mv (.tmp 4))), 0, []⟩,
⟨(some 99), none, (.p (.bin .geq (.tmp 98) (.c (.int .i64 4)))), 0, []⟩])
(.cond (.tmp 99)
(.seq
(.ops [⟨(some 100), none, (.p (.mv (.tmp 12))), 0, []⟩,
⟨(some 101), none, (.p (.bin .rem (.tmp 100) (.c (.int .u32 10000)))), 0, []⟩,
⟨(some 13), none, (.p (.mv (.tmp 101))), 0, []⟩])
(.seq
(.ops [⟨(some 102), none, (.p (.mv (.tmp 12))), 0, []⟩,
⟨(some 103), none, (.p (.bin .quo (.tmp 102) (.c (.int .u32 10000)))), 0, []⟩,
⟨(some 12), none, (.p (.mv (.tmp 103))), 0, []⟩])
(.seq
(.ops [⟨(some 104), none, (.p (.mv (.tmp 13))), 0, []⟩,
⟨(some 105), none, (.p (.bin .quo (.tmp 104) (.c (.int .u32 100)))), 0, []⟩,
⟨(some 106), none, (.p (.bin .mul (.tmp 105) (.c (.int .u32 2)))), 0, []⟩,
⟨(some 107), none, (.p (.mv (.tmp 13))), 0, []⟩,
⟨(some 108), none, (.p (.bin .rem (.tmp 107) (.c (.int .u32 100)))), 0, []⟩,
⟨(some 109), none, (.p (.bin .mul (.tmp 108) (.c (.int .u32 2)))), 0, []⟩,
⟨(some 14), none, (.p (.mv (.tmp 106))), 0, []⟩,
⟨(some 15), none, (.p (.mv (.tmp 109))), 0, []⟩])
(.seq
(.draw [⟨(some 110), none, (.p (.mv (.tmp 0))), 0, []⟩,
⟨(some 111), none, (.p (.mv (.tmp 4))), 1, []⟩,
⟨(some 112), none, (.p (.bin .sub (.tmp 111) (.c (.int .i64 1)))), 2, []⟩,
⟨(some 113), none, (.p (.mv (.tmp 0))), 3, []⟩,
⟨(some 114), none, (.p (.mv (.tmp 4))), 4, []⟩,
⟨(some 115), none, (.p (.bin .sub (.tmp 114) (.c (.int .i64 2)))), 5, []⟩,
⟨(some 116), none, (.p (.mv (.tmp 15))), 6, []⟩,
⟨(some 117), none, (.p (.bin .add (.tmp 116) (.c (.int .u32 1)))), 7, []⟩,
⟨(some 118), none, (.p (.idxStr (.c (.str [48, 48, 48, 49, 48, 50, 48, 51, 48, 52, 48, 53, 48, 54, 48, 55, 48, 56, 48, 57, 49, 48, 49, 49, 49, 50, 49, 51, 49, 52, 49, 53, 49, 54, 49, 55, 49, 56, 49, 57, 50, 48, 50, 49, 50, 50, 50, 51, 50, 52, 50, 53, 50, 54, 50, 55, 50, 56, 50, 57, 51, 48, 51, 49, 51, 50, 51, 51, 51, 52, 51, 53, 51, 54, 51, 55, 51, 56, 51, 57, 52, 48, 52, 49, 52, 50, 52, 51, 52, 52, 52, 53, 52, 54, 52, 55, 52, 56, 52, 57, 53, 48, 53, 49, 53, 50, 53, 51, 53, 52, 53, 53, 53, 54, 53, 55, 53, 56, 53, 57, 54, 48, 54, 49, 54, 50, 54, 51, 54, 52, 54, 53, 54, 54, 54, 55, 54, 56, 54, 57, 55, 48, 55, 49, 55, 50, 55, 51, 55, 52, 55, 53, 55, 54, 55, 55, 55, 56, 55, 57, 56, 48, 56, 49, 56, 50, 56, 51, 56, 52, 56, 53, 56, 54, 56, 55, 56, 56, 56, 57, 57, 48, 57, 49, 57, 50, 57, 51, 57, 52, 57, 53, 57, 54, 57, 55, 57, 56, 57, 57])) (.tmp 117))), 8, []⟩,
⟨(some 119), none, (.p (.mv (.tmp 15))), 9, []⟩,
⟨(some 120), none, (.p (.idxStr (.c (.str [48, 48, 48, 49, 48, 50, 48, 51, 48, 52, 48, 53, 48, 54, 48, 55, 48, 56, 48, 57, 49, 48, 49, 49, 49, 50, 49, 51, 49, 52, 49, 53, 49, 54, 49, 55, 49, 56, 49, 57, 50, 48, 50, 49, 50, 50, 50, 51, 50, 52, 50, 53, 50, 54, 50, 55, 50, 56, 50, 57, 51, 48, 51, 49, 51, 50, 51, 51, 51, 52, 51, 53, 51, 54, 51, 55, 51, 56, 51, 57, 52, 48, 52, 49, 52, 50, 52, 51, 52, 52, 52, 53, 52, 54, 52, 55, 52, 56, 52, 57, 53, 48, 53, 49, 53, 50, 53, 51, 53, 52, 53, 53, 53, 54, 53, 55, 53, 56, 53, 57, 54, 48, 54, 49, 54, 50, 54, 51, 54, 52, 54, 53, 54, 54, 54, 55, 54, 56, 54, 57, 55, 48, 55, 49, 55, 50, 55, 51, 55, 52, 55, 53, 55, 54, 55, 55, 55, 56, 55, 57, 56, 48, 56, 49, 56, 50, 56, 51, 56, 52, 56, 53, 56, 54, 56, 55, 56, 56, 56, 57, 57, 48, 57, 49, 57, 50, 57, 51, 57, 52, 57, 53, 57, 54, 57, 55, 57, 56, 57, 57])) (.tmp 119))), 10, []⟩,
⟨(some 121), none, (.p (.idxSl 1 (.tmp 110) (.tmp 112))), 11, []⟩,
⟨none, none, (.h (.store 1 (.tmp 121) (.tmp 118))), 12, []⟩,
⟨(some 122), none, (.p (.idxSl 1 (.tmp 113) (.tmp 115))), 13, []⟩,
⟨none, none, (.h (.store 1 (.tmp 122) (.tmp 120))), 14, []⟩])
(.seq
(.draw [⟨(some 123), none, (.p (.mv (.tmp 0))), 0, []⟩,
⟨(some 124), none, (.p (.mv (.tmp 4))), 1, []⟩,
⟨(some 125), none, (.p (.bin .sub (.tmp 124) (.c (.int .i64 3)))), 2, []⟩,
⟨(some 126), none, (.p (.mv (.tmp 0))), 3, []⟩,
⟨(some 127), none, (.p (.mv (.tmp 4))), 4, []⟩,
⟨(some 128), none, (.p (.bin .sub (.tmp 127) (.c (.int .i64 4)))), 5, []⟩,
⟨(some 129), none, (.p (.mv (.tmp 14))), 6, []⟩,
⟨(some 130), none, (.p (.bin .add (.tmp 129) (.c (.int .u32 1)))), 7, []⟩,
⟨(some 131), none, (.p (.idxStr (.c (.str [48, 48, 48, 49, 48, 50, 48, 51, 48, 52, 48, 53, 48, 54, 48, 55, 48, 56, 48, 57, 49, 48, 49, 49, 49, 50, 49, 51, 49, 52, 49, 53, 49, 54, 49, 55, 49, 56, 49, 57, 50, 48, 50, 49, 50, 50, 50, 51, 50, 52, 50, 53, 50, 54, 50, 55, 50, 56, 50, 57, 51, 48, 51, 49, 51, 50, 51, 51, 51, 52, 51, 53, 51, 54, 51, 55, 51, 56, 51, 57, 52, 48, 52, 49, 52, 50, 52, 51, 52, 52, 52, 53, 52, 54, 52, 55, 52, 56, 52, 57, 53, 48, 53, 49, 53, 50, 53, 51, 53, 52, 53, 53, 53, 54, 53, 55, 53, 56, 53, 57, 54, 48, 54, 49, 54, 50, 54, 51, 54, 52, 54, 53, 54, 54, 54, 55, 54, 56, 54, 57, 55, 48, 55, 49, 55, 50, 55, 51, 55, 52, 55, 53, 55, 54, 55, 55, 55, 56, 55, 57, 56, 48, 56, 49, 56, 50, 56, 51, 56, 52, 56, 53, 56, 54, 56, 55, 56, 56, 56, 57, 57, 48, 57, 49, 57, 50, 57, 51, 57, 52, 57, 53, 57, 54, 57, 55, 57, 56, 57, 57])) (.tmp 130))), 8, []⟩,
⟨(some 132), none, (.p (.mv (.tmp 14))), 9, []⟩,
⟨(some 133), none, (.p (.idxStr (.c (.str [48, 48, 48, 49, 48, 50, 48, 51, 48, 52, 48, 53, 48, 54, 48, 55, 48, 56, 48, 57, 49, 48, 49, 49, 49, 50, 49, 51, 49, 52, 49, 53, 49, 54, 49, 55, 49, 56, 49, 57, 50, 48, 50, 49, 50, 50, 50, 51, 50, 52, 50, 53, 50, 54, 50, 55, 50, 56, 50, 57, 51, 48, 51, 49, 51, 50, 51, 51, 51, 52, 51, 53, 51, 54, 51, 55, 51, 56, 51, 57, 52, 48, 52, 49, 52, 50, 52, 51, 52, 52, 52, 53, 52, 54, 52, 55, 52, 56, 52, 57, 53, 48, 53, 49, 53, 50, 53, 51, 53, 52, 53, 53, 53, 54, 53, 55, 53, 56, 53, 57, 54, 48, 54, 49, 54, 50, 54, 51, 54, 52, 54, 53, 54, 54, 54, 55, 54, 56, 54, 57, 55, 48, 55, 49, 55, 50, 55, 51, 55, 52, 55, 53, 55, 54, 55, 55, 55, 56, 55, 57, 56, 48, 56, 49, 56, 50, 56, 51, 56, 52, 56, 53, 56, 54, 56, 55, 56, 56, 56, 57, 57, 48, 57, 49, 57, 50, 57, 51, 57, 52, 57, 53, 57, 54, 57, 55, 57, 56, 57, 57])) (.tmp 132))), 10, []⟩,
⟨(some 134), none, (.p (.idxSl 1 (.tmp 123) (.tmp 125))), 11, []⟩,
⟨none, none, (.h (.store 1 (.tmp 134) (.tmp 131))), 12, []⟩,
⟨(some 135), none, (.p (.idxSl 1 (.tmp 126) (.tmp 128))), 13, []⟩,
⟨none, none, (.h (.store 1 (.tmp 135) (.tmp 133))), 14, []⟩])
(.ops [⟨(some 136), none, (.p (.mv (.tmp 4))), 0, []⟩,
⟨(some 137), none, (.p (.bin .sub (.tmp 136) (.c (.int .i64 4)))), 0, []⟩,
⟨(some 4), none, (.p (.mv (.tmp 137))), 0, []⟩]))))))
.skip))
(.seq
(.seq
(.ops [⟨(some 138), none, (.p (.mv (.tmp 4))), 0, []⟩,
⟨(some 139), none, (.p (.bin .geq (.tmp 138) (.c (.int .i64 2)))), 0, []⟩])
(.cond (.tmp 139)
(.seq
(.ops [⟨(some 140), none, (.p (.mv (.tmp 12))), 0, []⟩,
⟨(some 141), none, (.p (.bin .rem (.tmp 140) (.c (.int .u32 100)))), 0, []⟩,
⟨(some 142), none, (.p (.bin .mul (.tmp 141) (.c (.int .u32 2)))), 0, []⟩,
⟨(some 16), none, (.p (.mv (.tmp 142))), 0, []⟩])
(.seq
(.ops [⟨(some 143), none, (.p (.mv (.tmp 12))), 0, []⟩,
⟨(some 144), none, (.p (.bin .quo (.tmp 143) (.c (.int .u32 100)))), 0, []⟩,
⟨(some 12), none, (.p (.mv (.tmp 144))), 0, []⟩])
(.seq
(.draw [⟨(some 145), none, (.p (.mv (.tmp 0))), 0, []⟩,
⟨(some 146), none, (.p (.mv (.tmp 4))), 1, []⟩,
⟨(some 147), none, (.p (.bin .sub (.tmp 146) (.c (.int .i64 1)))), 2, []⟩,
⟨(some 148), none, (.p (.mv (.tmp 0))), 3, []⟩,
⟨(some 149), none, (.p (.mv (.tmp 4))), 4, []⟩,
⟨(some 150), none, (.p (.bin .sub (.tmp 149) (.c (.int .i64 2)))), 5, []⟩,
⟨(some 151), none, (.p (.mv (.tmp 16))), 6, []⟩,
⟨(some 152), none, (.p (.bin .add (.tmp 151) (.c (.int .u32 1)))), 7, []⟩,
⟨(some 153), none, (.p (.idxStr (.c (.str [48, 48, 48, 49, 48, 50, 48, 51, 48, 52, 48, 53, 48, 54, 48, 55, 48, 56, 48, 57, 49, 48, 49, 49, 49, 50, 49, 51, 49, 52, 49, 53, 49, 54, 49, 55, 49, 56, 49, 57, 50, 48, 50, 49, 50, 50, 50, 51, 50, 52, 50, 53, 50, 54, 50, 55, 50, 56, 50, 57, 51, 48, 51, 49, 51, 50, 51, 51, 51, 52, 51, 53, 51, 54, 51, 55, 51, 56, 51, 57, 52, 48, 52, 49, 52, 50, 52, 51, 52, 52, 52, 53, 52, 54, 52, 55, 52, 56, 52, 57, 53, 48, 53, 49, 53, 50, 53, 51, 53, 52, 53, 53, 53, 54, 53, 55, 53, 56, 53, 57, 54, 48, 54, 49, 54, 50, 54, 51, 54, 52, 54, 53, 54, 54, 54, 55, 54, 56, 54, 57, 55, 48, 55, 49, 55, 50, 55, 51, 55, 52, 55, 53, 55, 54, 55, 55, 55, 56, 55, 57, 56, 48, 56, 49, 56, 50, 56, 51, 56, 52, 56, 53, 56, 54, 56, 55, 56, 56, 56, 57, 57, 48, 57, 49, 57, 50, 57, 51, 57, 52, 57, 53, 57, 54, 57, 55, 57, 56, 57, 57])) (.tmp 152))), 8, []⟩,
⟨(some 154), none, (.p (.mv (.tmp 16))), 9, []⟩,
⟨(some 155), none, (.p (.idxStr (.c (.str [48, 48, 48, 49, 48, 50, 48, 51, 48, 52, 48, 53, 48, 54, 48, 55, 48, 56, 48, 57, 49, 48, 49, 49, 49, 50, 49, 51, 49, 52, 49, 53, 49, 54, 49, 55, 49, 56, 49, 57, 50, 48, 50, 49, 50, 50, 50, 51, 50, 52, 50, 53, 50, 54, 50, 55, 50, 56, 50, 57, 51, 48, 51, 49, 51, 50, 51, 51, 51, 52, 51, 53, 51, 54, 51, 55, 51, 56, 51, 57, 52, 48, 52, 49, 52, 50, 52, 51, 52, 52, 52, 53, 52, 54, 52, 55, 52, 56, 52, 57, 53, 48, 53, 49, 53, 50, 53, 51, 53, 52, 53, 53, 53, 54, 53, 55, 53, 56, 53, 57, 54, 48, 54, 49, 54, 50, 54, 51, 54, 52, 54, 53, 54, 54, 54, 55, 54, 56, 54, 57, 55, 48, 55, 49, 55, 50, 55, 51, 55, 52, 55, 53, 55, 54, 55, 55, 55, 56, 55, 57, 56, 48, 56, 49, 56, 50, 56, 51, 56, 52, 56, 53, 56, 54, 56, 55, 56, 56, 56, 57, 57, 48, 57, 49, 57, 50, 57, 51, 57, 52, 57, 53, 57, 54, 57, 55, 57, 56, 57, 57])) (.tmp 154))), 10, []⟩,
⟨(some 156), none, (.p (.idxSl 1 (.tmp 145) (.tmp 147))), 11, []⟩,
⟨none, none, (.h (.store 1 (.tmp 156) (.tmp 153))), 12, []⟩,
⟨(some 157), none, (.p (.idxSl 1 (.tmp 148) (.tmp 150))), 13, []⟩,
⟨none, none, (.h (.store 1 (.tmp 157) (.tmp 155))), 14, []⟩])
(.ops [⟨(some 158), none, (.p (.mv (.tmp 4))), 0, []⟩,
⟨(some 159), none, (.p (.bin .sub (.tmp 158) (.c (.int .i64 2)))), 0, []⟩,
⟨(some 4), none, (.p (.mv (.tmp 159))), 0, []⟩]))))
.skip))
(.seq
(.ops [⟨(some 160), none, (.p (.mv (.tmp 4))), 0, []⟩,
⟨(some 161), none, (.p (.bin .gtr (.tmp 160) (.c (.int .i64 0)))), 0, []⟩])
(.cond (.tmp 161)
(.ops [⟨(some 162), none, (.p (.mv (.tmp 0))), 0, []⟩,
⟨(some 163), none, (.p (.mv (.tmp 12))), 0, []⟩,
⟨(some 164), none, (.p (.bin .add (.c (.int .u32 48)) (.tmp 163))), 0, []⟩,
⟨(some 165), none, (.p (.convInt .u8 (.tmp 164))), 0, []⟩,
⟨(some 166), none, (.p (.idxSl 1 (.tmp 162) (.c (.int .i64 0)))), 0, []⟩,
⟨none, none, (.h (.store 1 (.tmp 166) (.tmp 165))), 0, []⟩])
.skip)))))))⟩
theorem c110 : Mir.compF Tryz.prog Tryz.f110 = some g110 := by kernel_rfl
/-- internal/strconv.formatBits -/
def g111 : Mir.Fn := ⟨102, [(.tmp 10), (.tmp 11)],
(.seq
(.ops [⟨(some 10), none, (.p (.mv (.c .nilsl))), 0, []⟩,
⟨(some 11), none, (.p (.mv (.c (.str [])))), 0, []⟩])
(.seq
(.seq
(.ops [⟨(some 19), none, (.p (.mv (.tmp 2))), 0, []⟩,
⟨(some 20), none, (.p (.bin .lss (.tmp 19) (.c (.int .i64 2)))), 0, []⟩,
⟨(some 21), none, (.p (.mv (.tmp 20))), 0, []⟩,
⟨(some 22), (some (21, false)), (.p (.mv (.tmp 2))), 0, []⟩,
⟨(some 23), (some (21, false)), (.p (.bin .eql (.tmp 22) (.c (.int .i64 10)))), 0, []⟩,
⟨(some 24), none, (.p (.pick (.tmp 21) (.c (.bool true)) (.tmp 23))), 0, []⟩,
⟨(some 25), none, (.p (.mv (.tmp 24))), 0, []⟩,
⟨(some 26), (some (25, false)), (.p (.mv (.tmp 2))), 0, []⟩,
⟨(some 27), (some (25, false)), (.p (.bin .gtr (.tmp 26) (.c (.int .i64 36)))), 0, []⟩,
⟨(some 28), none, (.p (.pick (.tmp 25) (.c (.bool true)) (.tmp 27))), 0, []⟩])
(.cond (.tmp 28)
(.ops [⟨(some 29), none, (.p (.mkIf 9 (.c (.str [115, 116, 114, 99, 111, 110, 118, 58, 32, 105, 108, 108, 101, 103, 97, 108, 32, 65, 112, 112, 101, 110, 100, 73, 110, 116, 47, 70, 111, 114, 109, 97, 116, 73, 110, 116, 32, 98, 97, 115, 101])))), 0, []⟩,
⟨none, none, (.p (.ext (.c .undef) 0)), 0, []⟩])
.skip))
(.seq
(.ops [⟨(some 12), none, (.a (.alloc [(.int .u8 0), (.int .u8 0), (.int .u8 0), (.int .u8 0), (.int .u8 0), (.int .u8 0), (.int .u8 0), (.int .u8 0), (.int .u8 0), (.int .u8 0), (.int .u8 0), (.int .u8 0), (.int .u8 0), (.int .u8 0), (.int .u8 0), (.int .u8 0), (.int .u8 0), (.int .u8 0), (.int .u8 0), (.int .u8 0), (.int .u8 0), (.int .u8 0), (.int .u8 0), (.int .u8 0), (.int .u8 0), (.int .u8 0), (.int .u8 0), (.int .u8 0), (.int .u8 0), (.int .u8 0), (.int .u8 0), (.int .u8 0), (.int .u8 0), (.int .u8 0), (.int .u8 0), (.int .u8 0), (.int .u8 0), (.int .u8 0), (.int .u8 0), (.int .u8 0), (.int .u8 0), (.int .u8 0), (.int .u8 0), (.int .u8 0), (.int .u8 0), (.int .u8 0), (.int .u8 0), (.int .u8 0), (.int .u8 0), (.int .u8 0), (.int .u8 0), (.int .u8 0), (.int .u8 0), (.int .u8 0), (.int .u8 0), (.int .u8 0), (.int .u8 0), (.int .u8 0), (.int .u8 0), (.int .u8 0), (.int .u8 0), (.int .u8 0), (.int .u8 0), (.int .u8 0), (.int .u8 0)])), 0, []⟩])
(.seq
(.ops [⟨(some 13), none, (.p (.mv (.c (.int .i64 65)))), 0, []⟩])
(.seq
(.seq
(.ops [⟨(some 30), none, (.p (.mv (.tmp 3))), 0, []⟩])
(.cond (.tmp 30)
(.ops [⟨(some 31), none, (.p (.mv (.tmp 1))), 0, []⟩,
⟨(some 32), none, (.p (.un .neg (.tmp 31))), 0, []⟩,
⟨(some 1), none, (.p (.mv (.tmp 32))), 0, []⟩])
.skip))
(.seq
(.seq
(.ops [⟨(some 33), none, (.p (.mv (.tmp 2))), 0, []⟩,
⟨(some 34), none, (.h (.call (.c (.fn 120 [] [])) [(.tmp 33)])), 0, []⟩])
(.cond (.tmp 34)
(.seq
(.ops [⟨(some 35), none, (.p (.mv (.tmp 2))), 0, []⟩,
⟨(some 36), none, (.p (.convInt .u64 (.tmp 35))), 0, []⟩,
⟨(some 37), none, (.h (.call (.c (.fn 121 [] [])) [(.tmp 36)])), 0, []⟩,
⟨(some 38), none, (.p (.convInt .u64 (.tmp 37))), 0, []⟩,
⟨(some 14), none, (.p (.mv (.tmp 38))), 0, []⟩])
(.seq
(.ops [⟨(some 39), none, (.p (.mv (.tmp 2))), 0, []⟩,
⟨(some 40), none, (.p (.convInt .u64 (.tmp 39))), 0, []⟩,
⟨(some 15), none, (.p (.mv (.tmp 40))), 0, []⟩])
(.seq
(.ops [⟨(some 41), none, (.p (.mv (.tmp 2))), 0, []⟩,
⟨(some 42), none, (.p (.convInt .u64 (.tmp 41))), 0, []⟩,
⟨(some 43), none, (.p (.bin .sub (.tmp 42) (.c (.int .u64 1)))), 0, []⟩,
⟨(some 16), none, (.p (.mv (.tmp 43))), 0, []⟩])
(.seq
(.block 0 (.loop (.seq
(.seq
(.ops [⟨(some 44), none, (.p (.mv (.tmp 1))), 0, []⟩,
⟨(some 45), none, (.p (.mv (.tmp 15))), 0, []⟩,
⟨(some 46), none, (.p (.bin .geq (.tmp 44) (.tmp 45))), 0, []⟩])
(.cond (.tmp 46)
.skip
(.exit 0)))
(.block 1 (.seq
(.ops [⟨(some 47), none, (.p (.mv (.tmp 13))), 0, []⟩,
⟨(some 48), none, (.p (.bin .sub (.tmp 47) (.c (.int .i64 1)))), 0, []⟩,
⟨(some 13), none, (.p (.mv (.tmp 48))), 0, []⟩])
(.seq
(.ops [⟨(some 49), none, (.p (.mv (.tmp 13))), 0, []⟩,
⟨(some 50), none, (.p (.mv (.tmp 1))), 0, []⟩,
⟨(some 51), none, (.p (.mv (.tmp 16))), 0, []⟩,
⟨(some 52), none, (.p (.bin .and (.tmp 50) (.tmp 51))), 0, []⟩,
⟨(some 53), none, (.p (.idxStr (.c (.str [48, 49, 50, 51, 52, 53, 54, 55, 56, 57, 97, 98, 99, 100, 101, 102, 103, 104, 105, 106, 107, 108, 109, 110, 111, 112, 113, 114, 115, 116, 117, 118, 119, 120, 121, 122])) (.tmp 52))), 0, []⟩,
⟨(some 54), none, (.p (.idxArr 65 1 (.tmp 12) (.tmp 49))), 0, []⟩,
⟨none, none, (.h (.store 1 (.tmp 54) (.tmp 53))), 0, []⟩])
(.ops [⟨(some 55), none, (.p (.mv (.tmp 1))), 0, []⟩,
⟨(some 56), none, (.p (.mv (.tmp 14))), 0, []⟩,
⟨(some 57), none, (.p (.bin .shr (.tmp 55) (.tmp 56))), 0, []⟩,
⟨(some 1), none, (.p (.mv (.tmp 57))), 0, []⟩])))))))
(.seq
(.ops [⟨(some 58), none, (.p (.mv (.tmp 13))), 0, []⟩,
⟨(some 59), none, (.p (.bin .sub (.tmp 58) (.c (.int .i64 1)))), 0, []⟩,
⟨(some 13), none, (.p (.mv (.tmp 59))), 0, []⟩])
(.ops [⟨(some 60), none, (.p (.mv (.tmp 13))), 0, []⟩,
⟨(some 61), none, (.p (.mv (.tmp 1))), 0, []⟩,
⟨(some 62), none, (.p (.idxStr (.c (.str [48, 49, 50, 51, 52, 53, 54, 55, 56, 57, 97, 98, 99, 100, 101, 102, 103, 104, 105, 106, 107, 108, 109, 110, 111, 112, 113, 114, 115, 116, 117, 118, 119, 120, 121, 122])) (.tmp 61))), 0, []⟩,
⟨(some 63), none, (.p (.idxArr 65 1 (.tmp 12) (.tmp 60))), 0, []⟩,
⟨none, none, (.h (.store 1 (.tmp 63) (.tmp 62))), 0, []⟩]))))))
(.seq
(.ops [⟨(some 64), none, (.p (.mv (.tmp 2))), 0, []⟩,
⟨(some 65), none, (.p (.convInt .u64 (.tmp 64))), 0, []⟩,
⟨(some 17), none, (.p (.mv (.tmp 65))), 0, []⟩])
(.seq
(.block 2 (.loop (.seq
(.seq
(.ops [⟨(some 66), none, (.p (.mv (.tmp 1))), 0, []⟩,
⟨(some 67), none, (.p (.mv (.tmp 17))), 0, []⟩,
⟨(some 68), none, (.p (.bin .geq (.tmp 66) (.tmp 67))), 0, []⟩])
(.cond (.tmp 68)
.skip
(.exit 2)))
(.block 3 (.seq
(.ops [⟨(some 69), none, (.p (.mv (.tmp 13))), 0, []⟩,
⟨(some 70), none, (.p (.bin .sub (.tmp 69) (.c (.int .i64 1)))), 0, []⟩,
⟨(some 13), none, (.p (.mv (.tmp 70))), 0, []⟩])
(.seq
(.ops [⟨(some 71), none, (.p (.mv (.tmp 1))), 0, []⟩,
⟨(some 72), none, (.p (.mv (.tmp 17))), 0, []⟩,
⟨(some 73), none, (.p (.bin .quo (.tmp 71) (.tmp 72))), 0, []⟩,
⟨(some 18), none, (.p (.mv (.tmp 73))), 0, []⟩])
(.seq
(.ops [⟨(some 74), none, (.p (.mv (.tmp 13))), 0, []⟩,
⟨(some 75), none, (.p (.mv (.tmp 1))), 0, []⟩,
⟨(some 76), none, (.p (.mv (.tmp 18))), 0, []⟩,
⟨(some 77), none, (.p (.mv (.tmp 17))), 0, []⟩,
⟨(some 78), none, (.p (.bin .mul (.tmp 76) (.tmp 77))), 0, []⟩,
⟨(some 79), none, (.p (.bin .sub (.tmp 75) (.tmp 78))), 0, []⟩,
⟨(some 80), none, (.p (.idxStr (.c (.str [48, 49, 50, 51, 52, 53, 54, 55, 56, 57, 97, 98, 99, 100, 101, 102, 103, 104, 105, 106, 107, 108, 109, 110, 111, 112, 113, 114, 115, 116, 117, 118, 119, 120, 121, 122])) (.tmp 79))), 0, []⟩,
⟨(some 81), none, (.p (.idxArr 65 1 (.tmp 12) (.tmp 74))), 0, []⟩,
⟨none, none, (.h (.store 1 (.tmp 81) (.tmp 80))), 0, []⟩])
(.ops [⟨(some 82), none, (.p (.mv (.tmp 18))), 0, []⟩,
⟨(some 1), none, (.p (.mv (.tmp 82))), 0, []⟩]))))))))
(.seq
(.ops [⟨(some 83), none, (.p (.mv (.tmp 13))), 0, []⟩,
⟨(some 84), none, (.p (.bin .sub (.tmp 83) (.c (.int .i64 1)))), 0, []⟩,
⟨(some 13), none, (.p (.mv (.tmp 84))), 0, []⟩])
(.ops [⟨(some 85), none, (.p (.mv (.tmp 13))), 0, []⟩,
⟨(some 86), none, (.p (.mv (.tmp 1))), 0, []⟩,
⟨(some 87), none, (.p (.idxStr (.c (.str [48, 49, 50, 51, 52, 53, 54, 55, 56, 57, 97, 98, 99, 100, 101, 102, 103, 104, 105, 106, 107, 108, 109, 110, 111, 112, 113, 114, 115, 116, 117, 118, 119, 120, 121, 122])) (.tmp 86))), 0, []⟩,
⟨(some 88), none, (.p (.idxArr 65 1 (.tmp 12) (.tmp 85))), 0, []⟩,
⟨none, none, (.h (.store 1 (.tmp 88) (.tmp 87))), 0, []⟩]))))))
(.seq
(.seq
(.ops [⟨(some 89), none, (.p (.mv (.tmp 3))), 0, []⟩])
(.cond (.tmp 89)
(.seq
(.ops [⟨(some 90), none, (.p (.mv (.tmp 13))), 0, []⟩,
⟨(some 91), none, (.p (.bin .sub (.tmp 90) (.c (.int .i64 1)))), 0, []⟩,
⟨(some 13), none, (.p (.mv (.tmp 91))), 0, []⟩])
(.ops [⟨(some 92), none, (.p (.mv (.tmp 13))), 0, []⟩,
⟨(some 93), none, (.p (.idxArr 65 1 (.tmp 12) (.tmp 92))), 0, []⟩,
⟨none, none, (.h (.store 1 (.tmp 93) (.c (.int .u8 45)))), 0, []⟩]))
.skip))
(.seq
(.seq
(.ops [⟨(some 94), none, (.p (.mv (.tmp 4))), 0, []⟩])
(.cond (.tmp 94)
(.seq
(.ops [⟨(some 95), none, (.p (.mv (.tmp 0))), 0, []⟩,
⟨(some 96), none, (.p (.mv (.tmp 13))), 0, []⟩,
⟨(some 97), none, (.r (.slArr 65 1 (.tmp 12) (some (.tmp 96)) none)), 0, []⟩,
⟨(some 98), none, (.h (.app 1 1 (.tmp 95) (.tmp 97))), 0, []⟩,
⟨(some 10), none, (.p (.mv (.tmp 98))), 0, []⟩])
.ret)
.skip))
(.seq
(.ops [⟨(some 99), none, (.p (.mv (.tmp 13))), 0, []⟩,
⟨(some 100), none, (.r (.slArr 65 1 (.tmp 12) (some (.tmp 99)) none)), 0, []⟩,
⟨(some 101), none, (.r (.toStr (.tmp 100))), 0, []⟩,
⟨(some 11), none, (.p (.mv (.tmp 101))), 0, []⟩])
.ret)))))))))⟩
theorem c111 : Mir.compF Tryz.prog Tryz.f111 = some g111 := by kernel_rfl
/-- internal/bytealg.Cutover -/
def g113 : Mir.Fn := ⟨6, [(.tmp 2)],
(.seq
(.ops [⟨(some 2), none, (.p (.mv (.c (.int .i64 0)))), 0, []⟩])
(.seq
(.ops [⟨(some 3), none, (.p (.mv (.tmp 0))), 0, []⟩,
⟨(some 4), none, (.p (.bin .add (.tmp 3) (.c (.int .i64 16)))), 0, []⟩,
⟨(some 5), none, (.p (.bin .quo (.tmp 4) (.c (.int .i64 8)))), 0, []⟩,
⟨(some 2), none, (.p (.mv (.tmp 5))), 0, []⟩])
.ret))⟩
theorem c113 : Mir.compF Tryz.prog Tryz.f113 = some g113 := by kernel_rfl
/-- internal/bytealg.IndexRabinKarp[string] -/
def g114 : Mir.Fn := ⟨81, [(.tmp 4)],
(.seq
(.ops [⟨(some 4), none, (.p (.mv (.c (.int .i64 0)))), 0, []⟩])
(.seq
(.ops [⟨(some 12), none, (.p (.mv (.tmp 1))), 0, []⟩,
⟨(some 13), none, (.h (.call (.c (.fn 122 [] [])) [(.tmp 12)])), 0, []⟩,
⟨(some 11), none, (.p (.mv (.tmp 13))), 0, []⟩,
⟨(some 14), none, (.p (.ext (.tmp 11) 0)), 0, []⟩,
⟨(some 15), none, (.p (.ext (.tmp 11) 1)), 0, []⟩,
⟨(some 5), none, (.p (.mv (.tmp 14))), 0, []⟩,
⟨(some 6), none, (.p (.mv (.tmp 15))), 0, []⟩])
(.seq
(.ops [⟨(some 16), none, (.p (.mv (.tmp 1))), 0, []⟩,
⟨(some 17), none, (.p (.lenStr (.tmp 16))), 0, []⟩,
⟨(some 7), none, (.p (.mv (.tmp 17))), 0, []⟩])
(.seq
(.ops [⟨(some 8), none, (.p (.mv (.c (.int .u32 0)))), 0, []⟩])
(.seq
(.seq
(.ops [⟨(some 9), none, (.p (.mv (.c (.int .i64 0)))), 0, []⟩])
(.block 0 (.loop (.seq
(.seq
(.ops [⟨(some 18), none, (.p (.mv (.tmp 9))), 0, []⟩,
⟨(some 19), none, (.p (.mv (.tmp 7))), 0, []⟩,
⟨(some 20), none, (.p (.bin .lss (.tmp 18) (.tmp 19))), 0, []⟩])
(.cond (.tmp 20)
.skip
(.exit 0)))
(.seq
(.block 1 (.ops [⟨(some 23), none, (.p (.mv (.tmp 8))), 0, []⟩,
⟨(some 24), none, (.p (.bin .mul (.tmp 23) (.c (.int .u32 16777619)))), 0, []⟩,
⟨(some 25), none, (.p (.mv (.tmp 0))), 0, []⟩,
⟨(some 26), none, (.p (.mv (.tmp 9))), 0, []⟩,
⟨(some 27), none, (.p (.idxStr (.tmp 25) (.tmp 26))), 0, []⟩,
⟨(some 28), none, (.p (.convInt .u32 (.tmp 27))), 0, []⟩,
⟨(some 29), none, (.p (.bin .add (.tmp 24) (.tmp 28))), 0, []⟩,
⟨(some 8), none, (.p (.mv (.tmp 29))), 0, []⟩]))
(.ops [⟨(some 21), none, (.p (.mv (.tmp 9))), 0, []⟩,
⟨(some 22), none, (.p (.bin .add (.tmp 21) (.c (.int .i64 1)))), 0, []⟩,
⟨(some 9), none, (.p (.mv (.tmp 22))), 0, []⟩]))))))
(.seq
(.seq
(.ops [⟨(some 30), none, (.p (.mv (.tmp 8))), 0, []⟩,
⟨(some 31), none, (.p (.mv (.tmp 5))), 0, []⟩,
⟨(some 32), none, (.p (.bin .eql (.tmp 30) (.tmp 31))), 0, []⟩,
⟨(some 33), none, (.p (.mv (.tmp 32))), 0, []⟩,
⟨(some 34), (some (33, true)), (.p (.mv (.tmp 0))), 0, []⟩,
⟨(some 35), (some (33, true)), (.p (.mv (.tmp 7))), 0, []⟩,
⟨(some 36), (some (33, true)), (.p (.subStr (.tmp 34) none (some (.tmp 35)))), 0, []⟩,
⟨(some 37), (some (33, true)), (.p (.mv (.tmp 1))), 0, []⟩,
⟨(some 38), (some (33, true)), (.p (.bin .eql (.tmp 36) (.tmp 37))), 0, []⟩,
⟨(some 39), none, (.p (.pick (.tmp 33) (.tmp 38) (.c (.bool false)))), 0, []⟩])
(.cond (.tmp 39)
(.seq
(.ops [⟨(some 4), none, (.p (.mv (.c (.int .i64 0)))), 0, []⟩])
.ret)
.skip))
(.seq
(.seq
(.ops [⟨(some 40), none, (.p (.mv (.tmp 7))), 0, []⟩,
⟨(some 10), none, (.p (.mv (.tmp 40))), 0, []⟩])
(.block 2 (.loop (.seq
(.seq
(.ops [⟨(some 41), none, (.p (.mv (.tmp 10))), 0, []⟩,
⟨(some 42), none, (.p (.mv (.tmp 0))), 0, []⟩,
⟨(some 43), none, (.p (.lenStr (.tmp 42))), 0, []⟩,
⟨(some 44), none, (.p (.bin .lss (.tmp 41) (.tmp 43))), 0, []⟩])
(.cond (.tmp 44)
.skip
(.exit 2)))
(.block 3 (.seq
(.ops [⟨(some 45), none, (.p (.mv (.tmp 8))), 0, []⟩,
⟨(some 46), none, (.p (.bin .mul (.tmp 45) (.c (.int .u32 16777619)))), 0, []⟩,
⟨(some 8), none, (.p (.mv (.tmp 46))), 0, []⟩])
(.seq
(.ops [⟨(some 47), none, (.p (.mv (.tmp 8))), 0, []⟩,
⟨(some 48), none, (.p (.mv (.tmp 0))), 0, []⟩,
⟨(some 49), none, (.p (.mv (.tmp 10))), 0, []⟩,
⟨(some 50), none, (.p (.idxStr (.tmp 48) (.tmp 49))), 0, []⟩,
⟨(some 51), none, (.p (.convInt .u32 (.tmp 50))), 0, []⟩,
⟨(some 52), none, (.p (.bin .add (.tmp 47) (.tmp 51))), 0, []⟩,
⟨(some 8), none, (.p (.mv (.tmp 52))), 0, []⟩])
(.seq
(.ops [⟨(some 53), none, (.p (.mv (.tmp 8))), 0, []⟩,
⟨(some 54), none, (.p (.mv (.tmp 6))), 0, []⟩,
⟨(some 55), none, (.p (.mv (.tmp 0))), 0, []⟩,
⟨(some 56), none, (.p (.mv (.tmp 10))), 0, []⟩,
⟨(some 57), none, (.p (.mv (.tmp 7))), 0, []⟩,
⟨(some 58), none, (.p (.bin .sub (.tmp 56) (.tmp 57))), 0, []⟩,
⟨(some 59), none, (.p (.idxStr (.tmp 55) (.tmp 58))), 0, []⟩,
⟨(some 60), none, (.p (.convInt .u32 (.tmp 59))), 0, []⟩,
⟨(some 61), none, (.p (.bin .mul (.tmp 54) (.tmp 60))), 0, []⟩,
⟨(some 62), none, (.p (.bin .sub (.tmp 53) (.tmp 61))), 0, []⟩,
⟨(some 8), none, (.p (.mv (.tmp 62))), 0, []⟩])
(.seq
(.ops [⟨(some 63), none, (.p (.mv (.tmp 10))), 0, []⟩,
⟨(some 64), none, (.p (.bin .add (.tmp 63) (.c (.int .i64 1)))), 0, []⟩,
⟨(some 10), none, (.p (.mv (.tmp 64))), 0, []⟩])
(.seq
(.ops [⟨(some 65), none, (.p (.mv (.tmp 8))), 0, []⟩,
⟨(some 66), none, (.p (.mv (.tmp 5))), 0, []⟩,
⟨(some 67), none, (.p (.bin .eql (.tmp 65) (.tmp 66))), 0, []⟩,
⟨(some 68), none, (.p (.mv (.tmp 67))), 0, []⟩,
⟨(some 69), (some (68, true)), (.p (.mv (.tmp 0))), 0, []⟩,
⟨(some 70), (some (68, true)), (.p (.mv (.tmp 10))), 0, []⟩,
⟨(some 71), (some (68, true)), (.p (.mv (.tmp 7))), 0, []⟩,
⟨(some 72), (some (68, true)), (.p (.bin .sub (.tmp 70) (.tmp 71))), 0, []⟩,
⟨(some 73), (some (68, true)), (.p (.mv (.tmp 10))), 0, []⟩,
⟨(some 74), (some (68, true)), (.p (.subStr (.tmp 69) (some (.tmp 72)) (some (.tmp 73)))), 0, []⟩,
⟨(some 75), (some (68, true)), (.p (.mv (.tmp 1))), 0, []⟩,
⟨(some 76), (some (68, true)), (.p (.bin .eql (.tmp 74) (.tmp 75))), 0, []⟩,
⟨(some 77), none, (.p (.pick (.tmp 68) (.tmp 76) (.c (.bool false)))), 0, []⟩])
(.cond (.tmp 77)
(.seq
(.ops [⟨(some 78), none, (.p (.mv (.tmp 10))), 0, []⟩,
⟨(some 79), none, (.p (.mv (.tmp 7))), 0, []⟩,
⟨(some 80), none, (.p (.bin .sub (.tmp 78) (.tmp 79))), 0, []⟩,
⟨(some 4), none, (.p (.mv (.tmp 80))), 0, []⟩])
.ret)
.skip)))))))))))
(.seq
(.ops [⟨(some 4), none, (.p (.mv (.c (.int .i64 (-1))))), 0, []⟩])
.ret))))))))⟩
theorem c114 : Mir.compF Tryz.prog Tryz.f114 = some g114 := by kernel_rfl
/-- (*scribe/parse.parser).add -/
def g115 : Mir.Fn := ⟨9, [(.cell 2 4 true)],
(.seq
(.ops [⟨(some 2), none, (.a (.alloc [(.str []), (.str []), (.int .i64 0), .nilsl])), 0, []⟩])
(.seq
(.ops [⟨(some 3), none, (.p (.mv (.tmp 0))), 0, []⟩,
⟨(some 4), none, (.p (.mv (.tmp 0))), 0, []⟩,
⟨(some 5), none, (.p (.mkFn 123 [(.tmp 4)] [])), 0, []⟩,
⟨(some 6), none, (.a .mkMap), 0, []⟩,
⟨none, none, (.h (.mapUpd (.one .str) (.tmp 6) (.c (.str [43])) (.c (.str [97, 100, 100])))), 0, []⟩,
⟨none, none, (.h (.mapUpd (.one .str) (.tmp 6) (.c (.str [45])) (.c (.str [115, 117, 98])))), 0, []⟩,
⟨(some 7), none, (.p (.mv (.tmp 6))), 0, []⟩,
⟨(some 8), none, (.h (.call (.c (.fn 90 [] [])) [(.tmp 3), (.tmp 5), (.c (.bool false)), (.tmp 7)])), 0, []⟩,
⟨none, none, (.h (.store 4 (.tmp 2) (.tmp 8))), 0, []⟩])
.ret))⟩
theorem c115 : Mir.compF Tryz.prog Tryz.f115 = some g115 := by kernel_rfl
/-- (*scribe/parse.parser).rel -/
def g116 : Mir.Fn := ⟨42, [(.cell 2 4 true)],
(.seq
(.ops [⟨(some 2), none, (.a (.alloc [(.str []), (.str []), (.int .i64 0), .nilsl])), 0, []⟩])
(.seq
(.ops [⟨(some 6), none, (.p (.mv (.tmp 0))), 0, []⟩,
⟨(some 7), none, (.h (.call (.c (.fn 106 [] [])) [(.tmp 6)])), 0, []⟩,
⟨(some 3), none, (.a (.alloc [(.str []), (.str []), (.int .i64 0), .nilsl])), 0, []⟩,
⟨none, none, (.h (.store 4 (.tmp 3) (.tmp 7))), 0, []⟩])
(.seq
(.ops [⟨(some 8), none, (.p (.mv (.tmp 0))), 0, []⟩,
⟨(some 9), none, (.h (.call (.c (.fn 27 [] [])) [(.tmp 8)])), 0, []⟩,
⟨(some 4), none, (.a (.alloc [(.int .i64 0), (.str []), (.int .i64 0)])), 0, []⟩,
⟨none, none, (.h (.store 3 (.tmp 4) (.tmp 9))), 0, []⟩])
(.seq
(.ops [⟨(some 10), none, (.a .mkMap), 0, []⟩,
⟨none, none, (.h (.mapUpd (.one .str) (.tmp 10) (.c (.str [60])) (.c (.str [108, 101, 115, 115])))), 0, []⟩,
⟨none, none, (.h (.mapUpd (.one .str) (.tmp 10) (.c (.str [60, 61])) (.c (.str [108, 101, 115, 115, 101, 113])))), 0, []⟩,
⟨none, none, (.h (.mapUpd (.one .str) (.tmp 10) (.c (.str [61, 61])) (.c (.str [101, 113, 117, 97, 108])))), 0, []⟩,
⟨none, none, (.h (.mapUpd (.one .str) (.tmp 10) (.c (.str [33, 61])) (.c (.str [110, 111, 116, 101, 113, 117, 97, 108])))), 0, []⟩,
⟨none, none, (.h (.mapUpd (.one .str) (.tmp 10) (.c (.str [62])) (.c (.str [103, 114, 101, 97, 116, 101, 114])))), 0, []⟩,
⟨none, none, (.h (.mapUpd (.one .str) (.tmp 10) (.c (.str [62, 61])) (.c (.str [103, 114, 101, 97, 116, 101, 114, 101, 113])))), 0, []⟩,
⟨(some 11), none, (.p (.mv (.tmp 10))), 0, []⟩,
⟨(some 12), none, (.p (.fieldAt 1 (.tmp 4))), 0, []⟩,
⟨(some 13), none, (.r (.load 1 false (.tmp 12))), 0, []⟩,
⟨(some 14), none, (.r (.lookup (.one .str) (.str []) false (.tmp 11) (.tmp 13))), 0, []⟩,
⟨(some 5), none, (.p (.mv (.tmp 14))), 0, []⟩])
(.seq
(.seq
(.ops [⟨(some 15), none, (.p (.fieldAt 0 (.tmp 4))), 0, []⟩,
⟨(some 16), none, (.r (.load 1 false (.tmp 15))), 0, []⟩,
⟨(some 17), none, (.p (.bin .neq (.tmp 16) (.c (.int .i64 8)))), 0, []⟩,
⟨(some 18), none, (.p (.mv (.tmp 17))), 0, []⟩,
⟨(some 19), (some (18, false)), (.p (.mv (.tmp 5))), 0, []⟩,
⟨(some 20), (some (18, false)), (.p (.bin .eql (.tmp 19) (.c (.str [])))), 0, []⟩,
⟨(some 21), none, (.p (.pick (.tmp 18) (.c (.bool true)) (.tmp 20))), 0, []⟩,
⟨(some 22), none, (.p (.mv (.tmp 21))), 0, []⟩,
⟨(some 23), (some (22, false)), (.p (.fieldAt 1 (.tmp 4))), 0, []⟩,
⟨(some 24), (some (22, false)), (.r (.load 1 false (.tmp 23))), 0, []⟩,
⟨(some 25), (some (22, false)), (.p (.bin .eql (.tmp 24) (.c (.str [62])))), 0, []⟩,
⟨(some 26), (some (22, false)), (.p (.mv (.tmp 25))), 0, []⟩,
⟨(some 27), (some (26, true)), (.p (.mv (.tmp 0))), 0, []⟩,
⟨(some 28), (some (26, true)), (.p (.nilchk (.tmp 27))), 0, []⟩,
⟨(some 29), (some (26, true)), (.p (.fieldAt 3 (.tmp 28))), 0, []⟩,
⟨(some 30), (some (26, true)), (.r (.load 1 false (.tmp 29))), 0, []⟩,
⟨(some 31), (some (22, false)), (.p (.pick (.tmp 26) (.tmp 30) (.c (.bool false)))), 0, []⟩,
⟨(some 32), none, (.p (.pick (.tmp 22) (.c (.bool true)) (.tmp 31))), 0, []⟩])
(.cond (.tmp 32)
(.seq
(.ops [⟨(some 33), none, (.r (.load 4 true (.tmp 3))), 0, []⟩,
⟨none, none, (.h (.store 4 (.tmp 2) (.tmp 33))), 0, []⟩])
.ret)
.skip))
(.seq
(.ops [⟨(some 34), none, (.p (.mv (.tmp 0))), 0, []⟩,
⟨(some 35), none, (.h (.call (.c (.fn 28 [] [])) [(.tmp 34)])), 0, []⟩])
(.seq
(.draw [⟨(some 36), none, (.p (.mv (.tmp 5))), 0, []⟩,
⟨(some 37), none, (.r (.load 4 true (.tmp 3))), 1, []⟩,
⟨(some 38), none, (.p (.mv (.tmp 0))), 2, []⟩,
⟨(some 39), none, (.h (.call (.c (.fn 106 [] [])) [(.tmp 38)])), 3, [1]⟩,
⟨(some 40), none, (.a (.mkSl [(.str []), (.str []), (.int .i64 0), .nilsl] 4 2 [(0, (4, (.tmp 37))), (4, (4, (.tmp 39)))])), 4, []⟩,
⟨(some 41), none, (.h (.call (.c (.fn 25 [] [])) [(.tmp 36), (.tmp 40)])), 5, []⟩,
⟨none, none, (.h (.store 4 (.tmp 2) (.tmp 41))), 6, []⟩])
.ret)))))))⟩
theorem c116 : Mir.compF Tryz.prog Tryz.f116 = some g116 := by kernel_rfl
/-- internal/strconv.log10Pow2 -/
def g117 : Mir.Fn := ⟨6, [(.tmp 2)],
(.seq
(.ops [⟨(some 2), none, (.p (.mv (.c (.int .i64 0)))), 0, []⟩])
(.seq
(.ops [⟨(some 3), none, (.p (.mv (.tmp 0))), 0, []⟩,
⟨(some 4), none, (.p (.bin .mul (.tmp 3) (.c (.int .i64 78913)))), 0, []⟩,
⟨(some 5), none, (.p (.bin .shr (.tmp 4) (.c (.int .u64 18)))), 0, []⟩,
⟨(some 2), none, (.p (.mv (.tmp 5))), 0, []⟩])
.ret))⟩
theorem c117 : Mir.compF Tryz.prog Tryz.f117 = some g117 := by kernel_rfl
/-- math/bits.Len64 -/
def g118 : Mir.Fn := ⟨25, [(.tmp 2)],
(.seq
(.ops [⟨(some 2), none, (.p (.mv (.c (.int .i64 0)))), 0, []⟩])
(.seq
(.seq
(.ops [⟨(some 3), none, (.p (.mv (.tmp 0))), 0, []⟩,
⟨(some 4), none, (.p (.bin .geq (.tmp 3) (.c (.int .u64 4294967296)))), 0, []⟩])
(.cond (.tmp 4)
(.seq
(.ops [⟨(some 5), none, (.p (.mv (.tmp 0))), 0, []⟩,
⟨(some 6), none, (.p (.bin .shr (.tmp 5) (.c (.int .u64 32)))), 0, []⟩,
⟨(some 0), none, (.p (.mv (.tmp 6))), 0, []⟩])
(.ops [⟨(some 2), none, (.p (.mv (.c (.int .i64 32)))), 0, []⟩]))
.skip))
(.seq
(.seq
(.ops [⟨(some 7), none, (.p (.mv (.tmp 0))), 0, []⟩,
⟨(some 8), none, (.p (.bin .geq (.tmp 7) (.c (.int .u64 65536)))), 0, []⟩])
(.cond (.tmp 8)
(.seq
(.ops [⟨(some 9), none, (.p (.mv (.tmp 0))), 0, []⟩,
⟨(some 10), none, (.p (.bin .shr (.tmp 9) (.c (.int .u64 16)))), 0, []⟩,
⟨(some 0), none, (.p (.mv (.tmp 10))), 0, []⟩])
(.ops [⟨(some 11), none, (.p (.mv (.tmp 2))), 0, []⟩,
⟨(some 12), none, (.p (.bin .add (.tmp 11) (.c (.int .i64 16)))), 0, []⟩,
⟨(some 2), none, (.p (.mv (.tmp 12))), 0, []⟩]))
.skip))
(.seq
(.seq
(.ops [⟨(some 13), none, (.p (.mv (.tmp 0))), 0, []⟩,
⟨(some 14), none, (.p (.bin .geq (.tmp 13) (.c (.int .u64 256)))), 0, []⟩])
(.cond (.tmp 14)
(.seq
(.ops [⟨(some 15), none, (.p (.mv (.tmp 0))), 0, []⟩,
⟨(some 16), none, (.p (.bin .shr (.tmp 15) (.c (.int .u64 8)))), 0, []⟩,
⟨(some 0), none, (.p (.mv (.tmp 16))), 0, []⟩])
(.ops [⟨(some 17), none, (.p (.mv (.tmp 2))), 0, []⟩,
⟨(some 18), none, (.p (.bin .add (.tmp 17) (.c (.int .i64 8)))), 0, []⟩,
⟨(some 2), none, (.p (.mv (.tmp 18))), 0, []⟩]))
.skip))
(.seq
(.ops [⟨(some 19), none, (.p (.mv (.tmp 2))), 0, []⟩,
⟨(some 20), none, (.p (.mv (.tmp 0))), 0, []⟩,
⟨(some 21), none, (.p (.convInt .u8 (.tmp 20))), 0, []⟩,
⟨(some 22), none, (.p (.idxStr (.c (.str [0, 1, 2, 2, 3, 3, 3, 3, 4, 4, 4, 4, 4, 4, 4, 4, 5, 5, 5, 5, 5, 5, 5, 5, 5, 5, 5, 5, 5, 5, 5, 5, 6, 6, 6, 6, 6, 6, 6, 6, 6, 6, 6, 6, 6, 6, 6, 6, 6, 6, 6, 6, 6, 6, 6, 6, 6, 6, 6, 6, 6, 6, 6, 6, 7, 7, 7, 7, 7, 7, 7, 7, 7, 7, 7, 7, 7, 7, 7, 7, 7, 7, 7, 7, 7, 7, 7, 7, 7, 7, 7, 7, 7, 7, 7, 7, 7, 7, 7, 7, 7, 7, 7, 7, 7, 7, 7, 7, 7, 7, 7, 7, 7, 7, 7, 7, 7, 7, 7, 7, 7, 7, 7, 7, 7, 7, 7, 7, 8, 8, 8, 8, 8, 8, 8, 8, 8, 8, 8, 8, 8, 8, 8, 8, 8, 8, 8, 8, 8, 8, 8, 8, 8, 8, 8, 8, 8, 8, 8, 8, 8, 8, 8, 8, 8, 8, 8, 8, 8, 8, 8, 8, 8, 8, 8, 8, 8, 8, 8, 8, 8, 8, 8, 8, 8, 8, 8, 8, 8, 8, 8, 8, 8, 8, 8, 8, 8, 8, 8, 8, 8, 8, 8, 8, 8, 8, 8, 8, 8, 8, 8, 8, 8, 8, 8, 8, 8, 8, 8, 8, 8, 8, 8, 8, 8, 8, 8, 8, 8, 8, 8, 8, 8, 8, 8, 8, 8, 8, 8, 8, 8, 8, 8, 8, 8, 8, 8, 8, 8, 8, 8, 8, 8, 8, 8, 8])) (.tmp 21))), 0, []⟩,
⟨(some 23), none, (.p (.convInt .i64 (.tmp 22))), 0, []⟩,
⟨(some 24), none, (.p (.bin .add (.tmp 19) (.tmp 23))), 0, []⟩,
⟨(some 2), none, (.p (.mv (.tmp 24))), 0, []⟩])
.ret)))))⟩
theorem c118 : Mir.compF Tryz.prog Tryz.f118 = some g118 := by kernel_rfl
/-- internal/strconv.bool2[int] -/
def g119 : Mir.Fn := ⟨4, [(.tmp 2)],
(.seq
(.ops [⟨(some 2), none, (.p (.mv (.c (.int .i64 0)))), 0, []⟩])
(.seq
(.seq
(.ops [⟨(some 3), none, (.p (.mv (.tmp 0))), 0, []⟩])
(.cond (.tmp 3)
(.seq
(.ops [⟨(some 2), none, (.p (.mv (.c (.int .i64 1)))), 0, []⟩])
.ret)
.skip))
(.seq
(.ops [⟨(some 2), none, (.p (.mv (.c (.int .i64 0)))), 0, []⟩])
.ret)))⟩
theorem c119 : Mir.compF Tryz.prog Tryz.f119 = some g119 := by kernel_rfl
/-- internal/strconv.isPowerOfTwo -/
def g120 : Mir.Fn := ⟨8, [(.tmp 2)],
(.seq
(.ops [⟨(some 2), none, (.p (.mv (.c (.bool false)))), 0, []⟩])
(.seq
(.ops [⟨(some 3), none, (.p (.mv (.tmp 0))), 0, []⟩,
⟨(some 4), none, (.p (.mv (.tmp 0))), 0, []⟩,
⟨(some 5), none, (.p (.bin .sub (.tmp 4) (.c (.int .i64 1)))), 0, []⟩,
⟨(some 6), none, (.p (.bin .and (.tmp 3) (.tmp 5))), 0, []⟩,
⟨(some 7), none, (.p (.bin .eql (.tmp 6) (.c (.int .i64 0)))), 0, []⟩,
⟨(some 2), none, (.p (.mv (.tmp 7))), 0, []⟩])
.ret))⟩
theorem c120 : Mir.compF Tryz.prog Tryz.f120 = some g120 := by kernel_rfl
/-- math/bits.TrailingZeros -/
def g121 : Mir.Fn := ⟨8, [(.tmp 2)],
(.seq
(.ops [⟨(some 2), none, (.p (.mv (.c (.int .i64 0)))), 0, []⟩])
(.seq
(.cond (.c (.bool false))
(.seq
(.ops [⟨(some 3), none, (.p (.mv (.tmp 0))), 0, []⟩,
⟨(some 4), none, (.p (.convInt .u32 (.tmp 3))), 0, []⟩,
⟨(some 5), none, (.h (.call (.c (.fn 124 [] [])) [(.tmp 4)])), 0, []⟩,
⟨(some 2), none, (.p (.mv (.tmp 5))), 0, []⟩])
.ret)
.skip)
(.seq
(.ops [⟨(some 6), none, (.p (.mv (.tmp 0))), 0, []⟩,
⟨(some 7), none, (.h (.call (.c (.fn 125 [] [])) [(.tmp 6)])), 0, []⟩,
⟨(some 2), none, (.p (.mv (.tmp 7))), 0, []⟩])
.ret)))⟩
theorem c121 : Mir.compF Tryz.prog Tryz.f121 = some g121 := by kernel_rfl
/-- internal/bytealg.hashStr[string] -/
def g122 : Mir.Fn := ⟨39, [(.tmp 2), (.tmp 3)],
(.seq
(.ops [⟨(some 2), none, (.p (.mv (.c (.int .u32 0)))), 0, []⟩,
⟨(some 3), none, (.p (.mv (.c (.int .u32 0)))), 0, []⟩])
(.seq
(.ops [⟨(some 4), none, (.p (.mv (.c (.int .u32 0)))), 0, []⟩])
(.seq
(.seq
(.ops [⟨(some 5), none, (.p (.mv (.c (.int .i64 0)))), 0, []⟩])
(.block 0 (.loop (.seq
(.seq
(.ops [⟨(some 9), none, (.p (.mv (.tmp 5))), 0, []⟩,
⟨(some 10), none, (.p (.mv (.tmp 0))), 0, []⟩,
⟨(some 11), none, (.p (.lenStr (.tmp 10))), 0, []⟩,
⟨(some 12), none, (.p (.bin .lss (.tmp 9) (.tmp 11))), 0, []⟩])
(.cond (.tmp 12)
.skip
(.exit 0)))
(.seq
(.block 1 (.ops [⟨(some 15), none, (.p (.mv (.tmp 4))), 0, []⟩,
⟨(some 16), none, (.p (.bin .mul (.tmp 15) (.c (.int .u32 16777619)))), 0, []⟩,
⟨(some 17), none, (.p (.mv (.tmp 0))), 0, []⟩,
⟨(some 18), none, (.p (.mv (.tmp 5))), 0, []⟩,
⟨(some 19), none, (.p (.idxStr (.tmp 17) (.tmp 18))), 0, []⟩,
⟨(some 20), none, (.p (.convInt .u32 (.tmp 19))), 0, []⟩,
⟨(some 21), none, (.p (.bin .add (.tmp 16) (.tmp 20))), 0, []⟩,
⟨(some 4), none, (.p (.mv (.tmp 21))), 0, []⟩]))
(.ops [⟨(some 13), none, (.p (.mv (.tmp 5))), 0, []⟩,
⟨(some 14), none, (.p (.bin .add (.tmp 13) (.c (.int .i64 1)))), 0, []⟩,
⟨(some 5), none, (.p (.mv (.tmp 14))), 0, []⟩]))))))
(.seq
(.ops [⟨(some 6), none, (.p (.mv (.c (.int .u32 1)))), 0, []⟩,
⟨(some 7), none, (.p (.mv (.c (.int .u32 16777619)))), 0, []⟩])
(.seq
(.seq
(.ops [⟨(some 22), none, (.p (.mv (.tmp 0))), 0, []⟩,
⟨(some 23), none, (.p (.lenStr (.tmp 22))), 0, []⟩,
⟨(some 8), none, (.p (.mv (.tmp 23))), 0, []⟩])
(.block 2 (.loop (.seq
(.seq
(.ops [⟨(some 24), none, (.p (.mv (.tmp 8))), 0, []⟩,
⟨(some 25), none, (.p (.bin .gtr (.tmp 24) (.c (.int .i64 0)))), 0, []⟩])
(.cond (.tmp 25)
.skip
(.exit 2)))
(.seq
(.block 3 (.seq
(.seq
(.ops [⟨(some 28), none, (.p (.mv (.tmp 8))), 0, []⟩,
⟨(some 29), none, (.p (.bin .and (.tmp 28) (.c (.int .i64 1)))), 0, []⟩,
⟨(some 30), none, (.p (.bin .neq (.tmp 29) (.c (.int .i64 0)))), 0, []⟩])
(.cond (.tmp 30)
(.ops [⟨(some 31), none, (.p (.mv (.tmp 6))), 0, []⟩,
⟨(some 32), none, (.p (.mv (.tmp 7))), 0, []⟩,
⟨(some 33), none, (.p (.bin .mul (.tmp 31) (.tmp 32))), 0, []⟩,
⟨(some 6), none, (.p (.mv (.tmp 33))), 0, []⟩])
.skip))
(.ops [⟨(some 34), none, (.p (.mv (.tmp 7))), 0, []⟩,
⟨(some 35), none, (.p (.mv (.tmp 7))), 0, []⟩,
⟨(some 36), none, (.p (.bin .mul (.tmp 34) (.tmp 35))), 0, []⟩,
⟨(some 7), none, (.p (.mv (.tmp 36))), 0, []⟩])))
(.ops [⟨(some 26), none, (.p (.mv (.tmp 8))), 0, []⟩,
⟨(some 27), none, (.p (.bin .shr (.tmp 26) (.c (.int .u64 1)))), 0, []⟩,
⟨(some 8), none, (.p (.mv (.tmp 27))), 0, []⟩]))))))
(.seq
(.ops [⟨(some 37), none, (.p (.mv (.tmp 4))), 0, []⟩,
⟨(some 38), none, (.p (.mv (.tmp 6))), 0, []⟩,
⟨(some 2), none, (.p (.mv (.tmp 37))), 0, []⟩,
⟨(some 3), none, (.p (.mv (.tmp 38))), 0, []⟩])
.ret))))))⟩
theorem c122 : Mir.compF Tryz.prog Tryz.f122 = some g122 := by kernel_rfl
/-- (*scribe/parse.parser).mul -/
def g123 : Mir.Fn := ⟨9, [(.cell 2 4 true)],
(.seq
(.ops [⟨(some 2), none, (.a (.alloc [(.str []), (.str []), (.int .i64 0), .nilsl])), 0, []⟩])
(.seq
(.ops [⟨(some 3), none, (.p (.mv (.tmp 0))), 0, []⟩,
⟨(some 4), none, (.p (.mv (.tmp 0))), 0, []⟩,
⟨(some 5), none, (.p (.mkFn 126 [(.tmp 4)] [])), 0, []⟩,
⟨(some 6), none, (.a .mkMap), 0, []⟩,
⟨none, none, (.h (.mapUpd (.one .str) (.tmp 6) (.c (.str [42])) (.c (.str [109, 117, 108])))), 0, []⟩,
⟨none, none, (.h (.mapUpd (.one .str) (.tmp 6) (.c (.str [47])) (.c (.str [100, 105, 118])))), 0, []⟩,
⟨none, none, (.h (.mapUpd (.one .str) (.tmp 6) (.c (.str [37])) (.c (.str [109, 111, 100])))), 0, []⟩,
⟨(some 7), none, (.p (.mv (.tmp 6))), 0, []⟩,
⟨(some 8), none, (.h (.call (.c (.fn 90 [] [])) [(.tmp 3), (.tmp 5), (.c (.bool false)), (.tmp 7)])), 0, []⟩,
⟨none, none, (.h (.store 4 (.tmp 2) (.tmp 8))), 0, []⟩])
.ret))⟩
theorem c123 : Mir.compF Tryz.prog Tryz.f123 = some g123 := by kernel_rfl
/-- math/bits.TrailingZeros32 -/
def g124 : Mir.Fn := ⟨14, [(.tmp 2)],
(.seq
(.ops [⟨(some 2), none, (.p (.mv (.c (.int .i64 0)))), 0, []⟩])
(.seq
(.seq
(.ops [⟨(some 3), none, (.p (.mv (.tmp 0))), 0, []⟩,
⟨(some 4), none, (.p (.bin .eql (.tmp 3) (.c (.int .u32 0)))), 0, []⟩])
(.cond (.tmp 4)
(.seq
(.ops [⟨(some 2), none, (.p (.mv (.c (.int .i64 32)))), 0, []⟩])
.ret)
.skip))
(.seq
(.ops [⟨(some 5), none, (.p (.mv (.tmp 0))), 0, []⟩,
⟨(some 6), none, (.p (.mv (.tmp 0))), 0, []⟩,
⟨(some 7), none, (.p (.un .neg (.tmp 6))), 0, []⟩,
⟨(some 8), none, (.p (.bin .and (.tmp 5) (.tmp 7))), 0, []⟩,
⟨(some 9), none, (.p (.bin .mul (.tmp 8) (.c (.int .u32 125613361)))), 0, []⟩,
⟨(some 10), none, (.p (.bin .shr (.tmp 9) (.c (.int .u64 27)))), 0, []⟩,
⟨(some 11), none, (.p (.idxArr 32 1 (.glob 6) (.tmp 10))), 0, []⟩,
⟨(some 12), none, (.r (.load 1 false (.tmp 11))), 0, []⟩,
⟨(some 13), none, (.p (.convInt .i64 (.tmp 12))), 0, []⟩,
⟨(some 2), none, (.p (.mv (.tmp 13))), 0, []⟩])
.ret)))⟩
theorem c124 : Mir.compF Tryz.prog Tryz.f124 = some g124 := by kernel_rfl
/-- math/bits.TrailingZeros64 -/
def g125 : Mir.Fn := ⟨14, [(.tmp 2)],
(.seq
(.ops [⟨(some 2), none, (.p (.mv (.c (.int .i64 0)))), 0, []⟩])
(.seq
(.seq
(.ops [⟨(some 3), none, (.p (.mv (.tmp 0))), 0, []⟩,
⟨(some 4), none, (.p (.bin .eql (.tmp 3) (.c (.int .u64 0)))), 0, []⟩])
(.cond (.tmp 4)
(.seq
(.ops [⟨(some 2), none, (.p (.mv (.c (.int .i64 64)))), 0, []⟩])
.ret)
.skip))
(.seq
(.ops [⟨(some 5), none, (.p (.mv (.tmp 0))), 0, []⟩,
⟨(some 6), none, (.p (.mv (.tmp 0))), 0, []⟩,
⟨(some 7), none, (.p (.un .neg (.tmp 6))), 0, []⟩,
⟨(some 8), none, (.p (.bin .and (.tmp 5) (.tmp 7))), 0, []⟩,
⟨(some 9), none, (.p (.bin .mul (.tmp 8) (.c (.int .u64 285870213051353865)))), 0, []⟩,
⟨(some 10), none, (.p (.bin .shr (.tmp 9) (.c (.int .u64 58)))), 0, []⟩,
⟨(some 11), none, (.p (.idxArr 64 1 (.glob 7) (.tmp 10))), 0, []⟩,
⟨(some 12), none, (.r (.load 1 false (.tmp 11))), 0, []⟩,
⟨(some 13), none, (.p (.convInt .i64 (.tmp 12))), 0, []⟩,
⟨(some 2), none, (.p (.mv (.tmp 13))), 0, []⟩])
.ret)))⟩
theorem c125 : Mir.compF Tryz.prog Tryz.f125 = some g125 := by kernel_rfl
/-- (*scribe/parse.parser).unary -/
def g126 : Mir.Fn := ⟨26, [(.cell 2 4 true)],
(.seq
(.ops [⟨(some 2), none, (.a (.alloc [(.str []), (.str []), (.int .i64 0), .nilsl])), 0, []⟩])
(.seq
(.seq
(.ops [⟨(some 5), none, (.a .mkMap), 0, []⟩,
⟨none, none, (.h (.mapUpd (.one .str) (.tmp 5) (.c (.str [33])) (.c (.str [110, 111, 116])))), 0, []⟩,
⟨none, none, (.h (.mapUpd (.one .str) (.tmp 5) (.c (.str [45])) (.c (.str [110, 101, 103])))), 0, []⟩,
⟨none, none, (.h (.mapUpd (.one .str) (.tmp 5) (.c (.str [43])) (.c (.str [112, 108, 117, 115])))), 0, []⟩,
⟨(some 6), none, (.p (.mv (.tmp 5))), 0, []⟩,
⟨(some 7), none, (.h (.range (.tmp 6))), 0, []⟩])
(.block 0 (.loop (.seq
(.ops [⟨(some 8), none, (.h (.next (.tmp 7))), 0, []⟩,
⟨(some 9), none, (.p (.ext (.tmp 8) 0)), 0, []⟩])
(.seq
(.cond (.tmp 9)
.skip
(.exit 0))
(.block 1 (.seq
(.ops [⟨(some 10), none, (.r (.entry (.tmp 7))), 0, []⟩,
⟨(some 11), none, (.p (.ext (.tmp 10) 0)), 0, []⟩,
⟨(some 12), none, (.p (.ext (.tmp 10) 1)), 0, []⟩,
⟨(some 3), none, (.p (.mv (.tmp 11))), 0, []⟩,
⟨(some 4), none, (.p (.mv (.tmp 12))), 0, []⟩])
(.seq
(.ops [⟨(some 13), none, (.p (.mv (.tmp 0))), 0, []⟩,
⟨(some 14), none, (.p (.mv (.tmp 3))), 0, []⟩,
⟨(some 15), none, (.h (.call (.c (.fn 40 [] [])) [(.tmp 13), (.tmp 14)])), 0, []⟩])
(.cond (.tmp 15)
(.seq
(.ops [⟨(some 16), none, (.p (.mv (.tmp 0))), 0, []⟩,
⟨(some 17), none, (.h (.call (.c (.fn 71 [] [])) [(.tmp 16)])), 0, []⟩])
(.seq
(.ops [⟨(some 18), none, (.p (.mv (.tmp 0))), 0, []⟩,
⟨none, none, (.h (.dfr (.c (.fn 72 [] [])) [(.tmp 18)])), 0, []⟩])
(.seq
(.ops [⟨(some 19), none, (.p (.mv (.tmp 4))), 0, []⟩,
⟨(some 20), none, (.p (.mv (.tmp 0))), 0, []⟩,
⟨(some 21), none, (.h (.call (.c (.fn 126 [] [])) [(.tmp 20)])), 0, []⟩,
⟨(some 22), none, (.a (.mkSl [(.str []), (.str []), (.int .i64 0), .nilsl] 4 1 [(0, (4, (.tmp 21)))])), 0, []⟩,
⟨(some 23), none, (.h (.call (.c (.fn 25 [] [])) [(.tmp 19), (.tmp 22)])), 0, []⟩,
⟨none, none, (.h (.store 4 (.tmp 2) (.tmp 23))), 0, []⟩])
.ret)))
.skip)))))))))
(.seq
(.ops [⟨(some 24), none, (.p (.mv (.tmp 0))), 0, []⟩,
⟨(some 25), none, (.h (.call (.c (.fn 127 [] [])) [(.tmp 24)])), 0, []⟩,
⟨none, none, (.h (.store 4 (.tmp 2) (.tmp 25))), 0, []⟩])
.ret)))⟩
theorem c126 : Mir.compF Tryz.prog Tryz.f126 = some g126 := by kernel_rfl
/-- (*scribe/parse.parser).post -/
def g127 : Mir.Fn := ⟨49, [(.cell 2 4 true)],
(.seq
(.ops [⟨(some 2), none, (.a (.alloc [(.str []), (.str []), (.int .i64 0), .nilsl])), 0, []⟩])
(.seq
(.seq
(.ops [⟨(some 7), none, (.a (.mkSl [(.str [])] 1 2 [(0, (1, (.c (.str [43, 43])))), (1, (1, (.c (.str [45, 45]))))])), 0, []⟩,
⟨(some 8), none, (.p (.lenSl (.tmp 7))), 0, []⟩,
⟨(some 9), none, (.p (.mv (.c (.int .i64 0)))), 0, []⟩])
(.block 0 (.loop (.seq
(.ops [⟨(some 10), none, (.p (.bin .lss (.tmp 9) (.tmp 8))), 0, []⟩])
(.seq
(.cond (.tmp 10)
.skip
(.exit 0))
(.seq
(.block 1 (.seq
(.ops [⟨(some 11), none, (.p (.idxSl 1 (.tmp 7) (.tmp 9))), 0, []⟩,
⟨(some 12), none, (.r (.load 1 false (.tmp 11))), 0, []⟩,
⟨(some 4), none, (.p (.mv (.tmp 12))), 0, []⟩])
(.seq
(.seq
(.ops [⟨(some 13), none, (.p (.mv (.tmp 0))), 0, []⟩,
⟨(some 14), none, (.p (.mv (.tmp 4))), 0, []⟩,
⟨(some 15), none, (.h (.call (.c (.fn 40 [] [])) [(.tmp 13), (.tmp 14)])), 0, []⟩,
⟨(some 16), none, (.p (.un .not (.tmp 15))), 0, []⟩])
(.cond (.tmp 16)
(.exit 1)
.skip))
(.seq
(.seq
(.ops [⟨(some 17), none, (.p (.mv (.tmp 0))), 0, []⟩,
⟨(some 18), none, (.h (.call (.c (.fn 128 [] [])) [(.tmp 17)])), 0, []⟩,
⟨(some 5), none, (.a (.alloc [(.str []), (.str []), (.int .i64 0), .nilsl])), 0, []⟩,
⟨none, none, (.h (.store 4 (.tmp 5) (.tmp 18))), 0, []⟩])
(.seq
(.ops [⟨(some 19), none, (.r (.load 4 true (.tmp 5))), 0, []⟩,
⟨(some 20), none, (.h (.call (.c (.fn 74 [] [])) [(.tmp 19)])), 0, []⟩])
(.cond (.tmp 20)
(.seq
(.ops [⟨(some 21), none, (.a .mkMap), 0, []⟩,
⟨none, none, (.h (.mapUpd (.one .str) (.tmp 21) (.c (.str [43, 43])) (.c (.str [112, 114, 101, 105, 110, 99])))), 0, []⟩,
⟨none, none, (.h (.mapUpd (.one .str) (.tmp 21) (.c (.str [45, 45])) (.c (.str [112, 114, 101, 100, 101, 99])))), 0, []⟩,
⟨(some 22), none, (.p (.mv (.tmp 21))), 0, []⟩,
⟨(some 23), none, (.p (.mv (.tmp 4))), 0, []⟩,
⟨(some 24), none, (.r (.lookup (.one .str) (.str []) false (.tmp 22) (.tmp 23))), 0, []⟩,
⟨(some 25), none, (.r (.load 4 true (.tmp 5))), 0, []⟩,
⟨(some 26), none, (.a (.mkSl [(.str []), (.str []), (.int .i64 0), .nilsl] 4 1 [(0, (4, (.tmp 25)))])), 0, []⟩,
⟨(some 27), none, (.h (.call (.c (.fn 25 [] [])) [(.tmp 24), (.tmp 26)])), 0, []⟩,
⟨none, none, (.h (.store 4 (.tmp 2) (.tmp 27))), 0, []⟩])
.ret)
.skip)))
(.seq
(.ops [⟨(some 28), none, (.p (.mv (.tmp 0))), 0, []⟩,
⟨(some 29), none, (.h (.call (.c (.fn 47 [] [])) [(.tmp 28)])), 0, []⟩])
(.seq
(.ops [⟨(some 30), none, (.p (.build [(.str []), (.str []), (.int .i64 0), .nilsl] [])), 0, []⟩,
⟨none, none, (.h (.store 4 (.tmp 2) (.tmp 30))), 0, []⟩])
.ret))))))
(.ops [⟨(some 31), none, (.p (.bin .add (.tmp 9) (.c (.int .i64 1)))), 0, []⟩,
⟨(some 9), none, (.p (.mv (.tmp 31))), 0, []⟩])))))))
(.seq
(.ops [⟨(some 32), none, (.p (.mv (.tmp 0))), 0, []⟩,
⟨(some 33), none, (.h (.call (.c (.fn 128 [] [])) [(.tmp 32)])), 0, []⟩,
⟨(some 6), none, (.a (.alloc [(.str []), (.str []), (.int .i64 0), .nilsl])), 0, []⟩,
⟨none, none, (.h (.store 4 (.tmp 6) (.tmp 33))), 0, []⟩])
(.seq
(.seq
(.ops [⟨(some 34), none, (.r (.load 4 true (.tmp 6))), 0, []⟩,
⟨(some 35), none, (.h (.call (.c (.fn 74 [] [])) [(.tmp 34)])), 0, []⟩,
⟨(some 36), none, (.p (.un .not (.tmp 35))), 0, []⟩])
(.cond (.tmp 36)
(.seq
(.ops [⟨(some 37), none, (.r (.load 4 true (.tmp 6))), 0, []⟩,
⟨none, none, (.h (.store 4 (.tmp 2) (.tmp 37))), 0, []⟩])
.ret)
.skip))
(.seq
(.seq
(.ops [⟨(some 38), none, (.p (.mv (.tmp 0))), 0, []⟩,
⟨(some 39), none, (.h (.call (.c (.fn 40 [] [])) [(.tmp 38), (.c (.str [43, 43]))])), 0, []⟩])
(.cond (.tmp 39)
(.seq
(.ops [⟨(some 40), none, (.r (.load 4 true (.tmp 6))), 0, []⟩,
⟨(some 41), none, (.a (.mkSl [(.str []), (.str []), (.int .i64 0), .nilsl] 4 1 [(0, (4, (.tmp 40)))])), 0, []⟩,
⟨(some 42), none, (.h (.call (.c (.fn 25 [] [])) [(.c (.str [112, 111, 115, 116, 105, 110, 99])), (.tmp 41)])), 0, []⟩,
⟨none, none, (.h (.store 4 (.tmp 2) (.tmp 42))), 0, []⟩])
.ret)
.skip))
(.seq
(.seq
(.ops [⟨(some 43), none, (.p (.mv (.tmp 0))), 0, []⟩,
⟨(some 44), none, (.h (.call (.c (.fn 40 [] [])) [(.tmp 43), (.c (.str [45, 45]))])), 0, []⟩])
(.cond (.tmp 44)
(.seq
(.ops [⟨(some 45), none, (.r (.load 4 true (.tmp 6))), 0, []⟩,
⟨(some 46), none, (.a (.mkSl [(.str []), (.str []), (.int .i64 0), .nilsl] 4 1 [(0, (4, (.tmp 45)))])), 0, []⟩,
⟨(some 47), none, (.h (.call (.c (.fn 25 [] [])) [(.c (.str [112, 111, 115, 116, 100, 101, 99])), (.tmp 46)])), 0, []⟩,
⟨none, none, (.h (.store 4 (.tmp 2) (.tmp 47))), 0, []⟩])
.ret)
.skip))
(.seq
(.ops [⟨(some 48), none, (.r (.load 4 true (.tmp 6))), 0, []⟩,
⟨none, none, (.h (.store 4 (.tmp 2) (.tmp 48))), 0, []⟩])
.ret)))))))⟩
theorem c127 : Mir.compF Tryz.prog Tryz.f127 = some g127 := by kernel_rfl
end Go.Proofs.YtkfbldogmgofoaaGreatDoor
