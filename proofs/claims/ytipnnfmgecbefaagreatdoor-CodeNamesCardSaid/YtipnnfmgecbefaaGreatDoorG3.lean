/- The mirror's code of the seat's functions; printed by KPrint. -/
import Derived.Test.YtipnnfmgecbefaaGreatDoorG2
namespace Go.Proofs.YtipnnfmgecbefaaGreatDoor
/-- internal/stringslite.Index -/
def g134 : Mir.Fn := ⟨143, [(.tmp 4)],
(.seq
(.ops [⟨(some 4), none, (.p (.mv (.c (.int .i64 0)))), 0, []⟩])
(.seq
(.ops [⟨(some 14), none, (.p (.mv (.tmp 1))), 0, []⟩,
⟨(some 15), none, (.p (.lenStr (.tmp 14))), 0, []⟩,
⟨(some 5), none, (.p (.mv (.tmp 15))), 0, []⟩])
(.seq
(.block 0 (.seq
(.ops [⟨(some 17), none, (.p (.mv (.tmp 5))), 0, []⟩,
⟨(some 18), none, (.p (.bin .eql (.tmp 17) (.c (.int .i64 0)))), 0, []⟩,
⟨(some 19), none, (.p (.mv (.tmp 18))), 0, []⟩,
⟨(some 20), (some (19, false)), (.p (.mv (.tmp 1))), 0, []⟩,
⟨(some 21), (some (19, false)), (.p (.mv (.tmp 0))), 0, []⟩,
⟨(some 22), (some (19, false)), (.p (.bin .eql (.tmp 20) (.tmp 21))), 0, []⟩,
⟨(some 23), none, (.p (.pick (.tmp 19) (.c (.bool true)) (.tmp 22))), 0, []⟩,
⟨(some 16), none, (.p (.mv (.tmp 23))), 0, []⟩])
(.cond (.tmp 16)
(.seq
(.ops [⟨(some 4), none, (.p (.mv (.c (.int .i64 0)))), 0, []⟩])
.ret)
(.seq
(.ops [⟨(some 25), none, (.p (.mv (.tmp 5))), 0, []⟩,
⟨(some 26), none, (.p (.bin .eql (.tmp 25) (.c (.int .i64 1)))), 0, []⟩,
⟨(some 24), none, (.p (.mv (.tmp 26))), 0, []⟩])
(.cond (.tmp 24)
(.seq
(.ops [⟨(some 27), none, (.p (.mv (.tmp 0))), 0, []⟩,
⟨(some 28), none, (.p (.mv (.tmp 1))), 0, []⟩,
⟨(some 29), none, (.p (.idxStr (.tmp 28) (.c (.int .i64 0)))), 0, []⟩,
⟨(some 30), none, (.h (.call (.c (.fn 128 [] [])) [(.tmp 27), (.tmp 29)])), 0, []⟩,
⟨(some 4), none, (.p (.mv (.tmp 30))), 0, []⟩])
.ret)
(.seq
(.ops [⟨(some 32), none, (.p (.mv (.tmp 5))), 0, []⟩,
⟨(some 33), none, (.p (.mv (.tmp 0))), 0, []⟩,
⟨(some 34), none, (.p (.lenStr (.tmp 33))), 0, []⟩,
⟨(some 35), none, (.p (.bin .geq (.tmp 32) (.tmp 34))), 0, []⟩,
⟨(some 31), none, (.p (.mv (.tmp 35))), 0, []⟩])
(.cond (.tmp 31)
(.seq
(.ops [⟨(some 4), none, (.p (.mv (.c (.int .i64 (-1))))), 0, []⟩])
.ret)
(.seq
(.ops [⟨(some 37), none, (.p (.mv (.tmp 5))), 0, []⟩,
⟨(some 38), none, (.r (.load 1 false (.glob 9))), 0, []⟩,
⟨(some 39), none, (.p (.bin .leq (.tmp 37) (.tmp 38))), 0, []⟩,
⟨(some 40), none, (.p (.mv (.tmp 39))), 0, []⟩,
⟨(some 41), (some (40, true)), (.p (.mv (.tmp 0))), 0, []⟩,
⟨(some 42), (some (40, true)), (.p (.lenStr (.tmp 41))), 0, []⟩,
⟨(some 43), (some (40, true)), (.p (.bin .leq (.tmp 42) (.c (.int .i64 64)))), 0, []⟩,
⟨(some 44), none, (.p (.pick (.tmp 40) (.tmp 43) (.c (.bool false)))), 0, []⟩,
⟨(some 36), none, (.p (.mv (.tmp 44))), 0, []⟩])
(.cond (.tmp 36)
(.seq
(.ops [⟨(some 45), none, (.p (.mv (.tmp 0))), 0, []⟩,
⟨(some 46), none, (.p (.mv (.tmp 1))), 0, []⟩,
⟨(some 47), none, (.r (.idxSub 9 (.tmp 45) (.tmp 46))), 0, []⟩,
⟨(some 4), none, (.p (.mv (.tmp 47))), 0, []⟩])
.ret)
.skip)))))))))
(.seq
(.ops [⟨(some 48), none, (.p (.mv (.tmp 1))), 0, []⟩,
⟨(some 49), none, (.p (.idxStr (.tmp 48) (.c (.int .i64 0)))), 0, []⟩,
⟨(some 6), none, (.p (.mv (.tmp 49))), 0, []⟩])
(.seq
(.ops [⟨(some 50), none, (.p (.mv (.tmp 1))), 0, []⟩,
⟨(some 51), none, (.p (.idxStr (.tmp 50) (.c (.int .i64 1)))), 0, []⟩,
⟨(some 7), none, (.p (.mv (.tmp 51))), 0, []⟩])
(.seq
(.ops [⟨(some 8), none, (.p (.mv (.c (.int .i64 0)))), 0, []⟩])
(.seq
(.ops [⟨(some 52), none, (.p (.mv (.tmp 0))), 0, []⟩,
⟨(some 53), none, (.p (.lenStr (.tmp 52))), 0, []⟩,
⟨(some 54), none, (.p (.mv (.tmp 5))), 0, []⟩,
⟨(some 55), none, (.p (.bin .sub (.tmp 53) (.tmp 54))), 0, []⟩,
⟨(some 56), none, (.p (.bin .add (.tmp 55) (.c (.int .i64 1)))), 0, []⟩,
⟨(some 9), none, (.p (.mv (.tmp 56))), 0, []⟩])
(.seq
(.ops [⟨(some 10), none, (.p (.mv (.c (.int .i64 0)))), 0, []⟩])
(.seq
(.block 1 (.loop (.seq
(.seq
(.ops [⟨(some 57), none, (.p (.mv (.tmp 8))), 0, []⟩,
⟨(some 58), none, (.p (.mv (.tmp 9))), 0, []⟩,
⟨(some 59), none, (.p (.bin .lss (.tmp 57) (.tmp 58))), 0, []⟩])
(.cond (.tmp 59)
.skip
(.exit 1)))
(.block 2 (.seq
(.seq
(.ops [⟨(some 60), none, (.p (.mv (.tmp 0))), 0, []⟩,
⟨(some 61), none, (.p (.mv (.tmp 8))), 0, []⟩,
⟨(some 62), none, (.p (.idxStr (.tmp 60) (.tmp 61))), 0, []⟩,
⟨(some 63), none, (.p (.mv (.tmp 6))), 0, []⟩,
⟨(some 64), none, (.p (.bin .neq (.tmp 62) (.tmp 63))), 0, []⟩])
(.cond (.tmp 64)
(.seq
(.ops [⟨(some 65), none, (.p (.mv (.tmp 0))), 0, []⟩,
⟨(some 66), none, (.p (.mv (.tmp 8))), 0, []⟩,
⟨(some 67), none, (.p (.bin .add (.tmp 66) (.c (.int .i64 1)))), 0, []⟩,
⟨(some 68), none, (.p (.mv (.tmp 9))), 0, []⟩,
⟨(some 69), none, (.p (.subStr (.tmp 65) (some (.tmp 67)) (some (.tmp 68)))), 0, []⟩,
⟨(some 70), none, (.p (.mv (.tmp 6))), 0, []⟩,
⟨(some 71), none, (.h (.call (.c (.fn 128 [] [])) [(.tmp 69), (.tmp 70)])), 0, []⟩,
⟨(some 11), none, (.p (.mv (.tmp 71))), 0, []⟩])
(.seq
(.seq
(.ops [⟨(some 72), none, (.p (.mv (.tmp 11))), 0, []⟩,
⟨(some 73), none, (.p (.bin .lss (.tmp 72) (.c (.int .i64 0)))), 0, []⟩])
(.cond (.tmp 73)
(.seq
(.ops [⟨(some 4), none, (.p (.mv (.c (.int .i64 (-1))))), 0, []⟩])
.ret)
.skip))
(.ops [⟨(some 74), none, (.p (.mv (.tmp 8))), 0, []⟩,
⟨(some 75), none, (.p (.mv (.tmp 11))), 0, []⟩,
⟨(some 76), none, (.p (.bin .add (.tmp 75) (.c (.int .i64 1)))), 0, []⟩,
⟨(some 77), none, (.p (.bin .add (.tmp 74) (.tmp 76))), 0, []⟩,
⟨(some 8), none, (.p (.mv (.tmp 77))), 0, []⟩])))
.skip))
(.seq
(.seq
(.ops [⟨(some 78), none, (.p (.mv (.tmp 0))), 0, []⟩,
⟨(some 79), none, (.p (.mv (.tmp 8))), 0, []⟩,
⟨(some 80), none, (.p (.bin .add (.tmp 79) (.c (.int .i64 1)))), 0, []⟩,
⟨(some 81), none, (.p (.idxStr (.tmp 78) (.tmp 80))), 0, []⟩,
⟨(some 82), none, (.p (.mv (.tmp 7))), 0, []⟩,
⟨(some 83), none, (.p (.bin .eql (.tmp 81) (.tmp 82))), 0, []⟩,
⟨(some 84), none, (.p (.mv (.tmp 83))), 0, []⟩,
⟨(some 85), (some (84, true)), (.p (.mv (.tmp 0))), 0, []⟩,
⟨(some 86), (some (84, true)), (.p (.mv (.tmp 8))), 0, []⟩,
⟨(some 87), (some (84, true)), (.p (.mv (.tmp 8))), 0, []⟩,
⟨(some 88), (some (84, true)), (.p (.mv (.tmp 5))), 0, []⟩,
⟨(some 89), (some (84, true)), (.p (.bin .add (.tmp 87) (.tmp 88))), 0, []⟩,
⟨(some 90), (some (84, true)), (.p (.subStr (.tmp 85) (some (.tmp 86)) (some (.tmp 89)))), 0, []⟩,
⟨(some 91), (some (84, true)), (.p (.mv (.tmp 1))), 0, []⟩,
⟨(some 92), (some (84, true)), (.p (.bin .eql (.tmp 90) (.tmp 91))), 0, []⟩,
⟨(some 93), none, (.p (.pick (.tmp 84) (.tmp 92) (.c (.bool false)))), 0, []⟩])
(.cond (.tmp 93)
(.seq
(.ops [⟨(some 94), none, (.p (.mv (.tmp 8))), 0, []⟩,
⟨(some 4), none, (.p (.mv (.tmp 94))), 0, []⟩])
.ret)
.skip))
(.seq
(.ops [⟨(some 95), none, (.p (.mv (.tmp 8))), 0, []⟩,
⟨(some 96), none, (.p (.bin .add (.tmp 95) (.c (.int .i64 1)))), 0, []⟩,
⟨(some 8), none, (.p (.mv (.tmp 96))), 0, []⟩])
(.seq
(.ops [⟨(some 97), none, (.p (.mv (.tmp 10))), 0, []⟩,
⟨(some 98), none, (.p (.bin .add (.tmp 97) (.c (.int .i64 1)))), 0, []⟩,
⟨(some 10), none, (.p (.mv (.tmp 98))), 0, []⟩])
(.seq
(.ops [⟨(some 99), none, (.p (.mv (.tmp 5))), 0, []⟩,
⟨(some 100), none, (.r (.load 1 false (.glob 9))), 0, []⟩,
⟨(some 101), none, (.p (.bin .leq (.tmp 99) (.tmp 100))), 0, []⟩,
⟨(some 102), none, (.p (.mv (.tmp 101))), 0, []⟩,
⟨(some 103), (some (102, true)), (.p (.mv (.tmp 10))), 0, []⟩,
⟨(some 104), (some (102, true)), (.p (.mv (.tmp 8))), 0, []⟩,
⟨(some 105), (some (102, true)), (.h (.call (.c (.fn 141 [] [])) [(.tmp 104)])), 0, []⟩,
⟨(some 106), (some (102, true)), (.p (.bin .gtr (.tmp 103) (.tmp 105))), 0, []⟩,
⟨(some 107), none, (.p (.pick (.tmp 102) (.tmp 106) (.c (.bool false)))), 0, []⟩])
(.cond (.tmp 107)
(.seq
(.ops [⟨(some 108), none, (.p (.mv (.tmp 0))), 0, []⟩,
⟨(some 109), none, (.p (.mv (.tmp 8))), 0, []⟩,
⟨(some 110), none, (.p (.subStr (.tmp 108) (some (.tmp 109)) none)), 0, []⟩,
⟨(some 111), none, (.p (.mv (.tmp 1))), 0, []⟩,
⟨(some 112), none, (.r (.idxSub 9 (.tmp 110) (.tmp 111))), 0, []⟩,
⟨(some 12), none, (.p (.mv (.tmp 112))), 0, []⟩])
(.seq
(.seq
(.ops [⟨(some 113), none, (.p (.mv (.tmp 12))), 0, []⟩,
⟨(some 114), none, (.p (.bin .geq (.tmp 113) (.c (.int .i64 0)))), 0, []⟩])
(.cond (.tmp 114)
(.seq
(.ops [⟨(some 115), none, (.p (.mv (.tmp 12))), 0, []⟩,
⟨(some 116), none, (.p (.mv (.tmp 8))), 0, []⟩,
⟨(some 117), none, (.p (.bin .add (.tmp 115) (.tmp 116))), 0, []⟩,
⟨(some 4), none, (.p (.mv (.tmp 117))), 0, []⟩])
.ret)
.skip))
(.seq
(.ops [⟨(some 4), none, (.p (.mv (.c (.int .i64 (-1))))), 0, []⟩])
.ret)))
(.seq
(.ops [⟨(some 118), none, (.p (.mv (.tmp 5))), 0, []⟩,
⟨(some 119), none, (.r (.load 1 false (.glob 9))), 0, []⟩,
⟨(some 120), none, (.p (.bin .gtr (.tmp 118) (.tmp 119))), 0, []⟩,
⟨(some 121), none, (.p (.mv (.tmp 120))), 0, []⟩,
⟨(some 122), (some (121, true)), (.p (.mv (.tmp 10))), 0, []⟩,
⟨(some 123), (some (121, true)), (.p (.mv (.tmp 8))), 0, []⟩,
⟨(some 124), (some (121, true)), (.p (.bin .shr (.tmp 123) (.c (.int .u64 4)))), 0, []⟩,
⟨(some 125), (some (121, true)), (.p (.bin .add (.c (.int .i64 4)) (.tmp 124))), 0, []⟩,
⟨(some 126), (some (121, true)), (.p (.bin .geq (.tmp 122) (.tmp 125))), 0, []⟩,
⟨(some 127), none, (.p (.pick (.tmp 121) (.tmp 126) (.c (.bool false)))), 0, []⟩,
⟨(some 128), none, (.p (.mv (.tmp 127))), 0, []⟩,
⟨(some 129), (some (128, true)), (.p (.mv (.tmp 8))), 0, []⟩,
⟨(some 130), (some (128, true)), (.p (.mv (.tmp 9))), 0, []⟩,
⟨(some 131), (some (128, true)), (.p (.bin .lss (.tmp 129) (.tmp 130))), 0, []⟩,
⟨(some 132), none, (.p (.pick (.tmp 128) (.tmp 131) (.c (.bool false)))), 0, []⟩])
(.cond (.tmp 132)
(.seq
(.ops [⟨(some 133), none, (.p (.mv (.tmp 0))), 0, []⟩,
⟨(some 134), none, (.p (.mv (.tmp 8))), 0, []⟩,
⟨(some 135), none, (.p (.subStr (.tmp 133) (some (.tmp 134)) none)), 0, []⟩,
⟨(some 136), none, (.p (.mv (.tmp 1))), 0, []⟩,
⟨(some 137), none, (.h (.call (.c (.fn 142 [] [])) [(.tmp 135), (.tmp 136)])), 0, []⟩,
⟨(some 13), none, (.p (.mv (.tmp 137))), 0, []⟩])
(.seq
(.seq
(.ops [⟨(some 138), none, (.p (.mv (.tmp 13))), 0, []⟩,
⟨(some 139), none, (.p (.bin .lss (.tmp 138) (.c (.int .i64 0)))), 0, []⟩])
(.cond (.tmp 139)
(.seq
(.ops [⟨(some 4), none, (.p (.mv (.c (.int .i64 (-1))))), 0, []⟩])
.ret)
.skip))
(.seq
(.ops [⟨(some 140), none, (.p (.mv (.tmp 8))), 0, []⟩,
⟨(some 141), none, (.p (.mv (.tmp 13))), 0, []⟩,
⟨(some 142), none, (.p (.bin .add (.tmp 140) (.tmp 141))), 0, []⟩,
⟨(some 4), none, (.p (.mv (.tmp 142))), 0, []⟩])
.ret)))
.skip))))))))))))
(.seq
(.ops [⟨(some 4), none, (.p (.mv (.c (.int .i64 (-1))))), 0, []⟩])
.ret))))))))))⟩
theorem c134 : Mir.compF Tryz.prog Tryz.f134 = some g134 := by kernel_rfl
/-- (*scribe/parse.parser).list -/
def g137 : Mir.Fn := ⟨50, [(.tmp 4)],
(.seq
(.ops [⟨(some 4), none, (.p (.mv (.c .nilsl))), 0, []⟩])
(.seq
(.ops [⟨(some 5), none, (.p (.mv (.c .nilsl))), 0, []⟩])
(.seq
(.ops [⟨(some 7), none, (.p (.mv (.tmp 0))), 0, []⟩,
⟨(some 8), none, (.p (.nilchk (.tmp 7))), 0, []⟩,
⟨(some 9), none, (.p (.fieldAt 3 (.tmp 8))), 0, []⟩,
⟨(some 10), none, (.r (.load 1 false (.tmp 9))), 0, []⟩,
⟨(some 6), none, (.p (.mv (.tmp 10))), 0, []⟩])
(.seq
(.ops [⟨(some 11), none, (.p (.mv (.tmp 0))), 0, []⟩,
⟨(some 12), none, (.p (.nilchk (.tmp 11))), 0, []⟩,
⟨(some 13), none, (.p (.fieldAt 3 (.tmp 12))), 0, []⟩,
⟨none, none, (.h (.store 1 (.tmp 13) (.c (.bool false)))), 0, []⟩])
(.seq
(.ops [⟨(some 14), none, (.p (.mv (.tmp 0))), 0, []⟩,
⟨(some 15), none, (.h (.call (.c (.fn 56 [] [])) [(.tmp 14)])), 0, []⟩])
(.seq
(.block 0 (.loop (.seq
(.seq
(.ops [⟨(some 16), none, (.p (.mv (.tmp 0))), 0, []⟩,
⟨(some 17), none, (.p (.nilchk (.tmp 16))), 0, []⟩,
⟨(some 18), none, (.p (.fieldAt 4 (.tmp 17))), 0, []⟩,
⟨(some 19), none, (.r (.load 1 false (.tmp 18))), 0, []⟩,
⟨(some 20), none, (.p (.bin .eql (.tmp 19) (.c (.int .i64 0)))), 0, []⟩,
⟨(some 21), none, (.p (.mv (.tmp 20))), 0, []⟩,
⟨(some 22), (some (21, true)), (.p (.mv (.tmp 0))), 0, []⟩,
⟨(some 23), (some (21, true)), (.p (.mv (.tmp 1))), 0, []⟩,
⟨(some 24), (some (21, true)), (.a (.mkSl [(.str [])] 1 1 [(0, (1, (.tmp 23)))])), 0, []⟩,
⟨(some 25), (some (21, true)), (.h (.call (.c (.fn 29 [] [])) [(.tmp 22), (.tmp 24)])), 0, []⟩,
⟨(some 26), (some (21, true)), (.p (.un .not (.tmp 25))), 0, []⟩,
⟨(some 27), none, (.p (.pick (.tmp 21) (.tmp 26) (.c (.bool false)))), 0, []⟩])
(.cond (.tmp 27)
.skip
(.exit 0)))
(.block 1 (.seq
(.seq
(.ops [⟨(some 28), none, (.p (.mv (.tmp 5))), 0, []⟩,
⟨(some 29), none, (.p (.lenSl (.tmp 28))), 0, []⟩,
⟨(some 30), none, (.p (.bin .gtr (.tmp 29) (.c (.int .i64 0)))), 0, []⟩])
(.cond (.tmp 30)
(.seq
(.ops [⟨(some 31), none, (.p (.mv (.tmp 0))), 0, []⟩,
⟨(some 32), none, (.h (.call (.c (.fn 55 [] [])) [(.tmp 31), (.c (.str [44]))])), 0, []⟩])
(.ops [⟨(some 33), none, (.p (.mv (.tmp 0))), 0, []⟩,
⟨(some 34), none, (.h (.call (.c (.fn 56 [] [])) [(.tmp 33)])), 0, []⟩]))
.skip))
(.seq
(.ops [⟨(some 35), none, (.p (.mv (.tmp 5))), 0, []⟩,
⟨(some 36), none, (.p (.mv (.tmp 0))), 0, []⟩,
⟨(some 37), none, (.h (.call (.c (.fn 57 [] [])) [(.tmp 36)])), 0, []⟩,
⟨(some 38), none, (.a (.mkSl [(.str []), (.str []), (.int .i64 0), .nilsl] 4 1 [(0, (4, (.tmp 37)))])), 0, []⟩,
⟨(some 39), none, (.h (.app 4 64 (.tmp 35) (.tmp 38))), 0, []⟩,
⟨(some 5), none, (.p (.mv (.tmp 39))), 0, []⟩])
(.ops [⟨(some 40), none, (.p (.mv (.tmp 0))), 0, []⟩,
⟨(some 41), none, (.h (.call (.c (.fn 56 [] [])) [(.tmp 40)])), 0, []⟩])))))))
(.seq
(.ops [⟨(some 42), none, (.p (.mv (.tmp 0))), 0, []⟩,
⟨(some 43), none, (.p (.mv (.tmp 1))), 0, []⟩,
⟨(some 44), none, (.h (.call (.c (.fn 55 [] [])) [(.tmp 42), (.tmp 43)])), 0, []⟩])
(.seq
(.ops [⟨(some 45), none, (.p (.mv (.tmp 0))), 0, []⟩,
⟨(some 46), none, (.p (.mv (.tmp 6))), 0, []⟩,
⟨(some 47), none, (.p (.nilchk (.tmp 45))), 0, []⟩,
⟨(some 48), none, (.p (.fieldAt 3 (.tmp 47))), 0, []⟩,
⟨none, none, (.h (.store 1 (.tmp 48) (.tmp 46))), 0, []⟩])
(.seq
(.ops [⟨(some 49), none, (.p (.mv (.tmp 5))), 0, []⟩,
⟨(some 4), none, (.p (.mv (.tmp 49))), 0, []⟩])
.ret)))))))))⟩
theorem c137 : Mir.compF Tryz.prog Tryz.f137 = some g137 := by kernel_rfl
/-- (*scribe/parse.parser).cat -/
def g138 : Mir.Fn := ⟨26, [(.cell 2 4 true)],
(.seq
(.ops [⟨(some 2), none, (.a (.alloc [(.str []), (.str []), (.int .i64 0), .nilsl])), 0, []⟩])
(.seq
(.ops [⟨(some 5), none, (.p (.mv (.tmp 0))), 0, []⟩,
⟨(some 6), none, (.h (.call (.c (.fn 143 [] [])) [(.tmp 5)])), 0, []⟩,
⟨(some 3), none, (.a (.alloc [(.str []), (.str []), (.int .i64 0), .nilsl])), 0, []⟩,
⟨none, none, (.h (.store 4 (.tmp 3) (.tmp 6))), 0, []⟩])
(.block 0 (.loop (.block 1 (.seq
(.ops [⟨(some 7), none, (.p (.mv (.tmp 0))), 0, []⟩,
⟨(some 8), none, (.h (.call (.c (.fn 30 [] [])) [(.tmp 7)])), 0, []⟩,
⟨(some 4), none, (.a (.alloc [(.int .i64 0), (.str []), (.int .i64 0)])), 0, []⟩,
⟨none, none, (.h (.store 3 (.tmp 4) (.tmp 8))), 0, []⟩])
(.seq
(.seq
(.ops [⟨(some 9), none, (.a (.mkSl [(.int .i64 0)] 1 5 [(0, (1, (.c (.int .i64 2)))), (1, (1, (.c (.int .i64 3)))), (2, (1, (.c (.int .i64 5)))), (3, (1, (.c (.int .i64 6)))), (4, (1, (.c (.int .i64 9))))])), 0, []⟩,
⟨(some 10), none, (.p (.fieldAt 0 (.tmp 4))), 0, []⟩,
⟨(some 11), none, (.r (.load 1 false (.tmp 10))), 0, []⟩,
⟨(some 12), none, (.h (.call (.c (.fn 91 [] [])) [(.tmp 9), (.tmp 11)])), 0, []⟩,
⟨(some 13), none, (.p (.un .not (.tmp 12))), 0, []⟩,
⟨(some 14), none, (.p (.mv (.tmp 13))), 0, []⟩,
⟨(some 15), (some (14, true)), (.p (.mv (.tmp 0))), 0, []⟩,
⟨(some 16), (some (14, true)), (.a (.mkSl [(.str [])] 1 2 [(0, (1, (.c (.str [36])))), (1, (1, (.c (.str [40]))))])), 0, []⟩,
⟨(some 17), (some (14, true)), (.h (.call (.c (.fn 29 [] [])) [(.tmp 15), (.tmp 16)])), 0, []⟩,
⟨(some 18), (some (14, true)), (.p (.un .not (.tmp 17))), 0, []⟩,
⟨(some 19), none, (.p (.pick (.tmp 14) (.tmp 18) (.c (.bool false)))), 0, []⟩])
(.cond (.tmp 19)
(.seq
(.ops [⟨(some 20), none, (.r (.load 4 true (.tmp 3))), 0, []⟩,
⟨none, none, (.h (.store 4 (.tmp 2) (.tmp 20))), 0, []⟩])
.ret)
.skip))
(.draw [⟨(some 21), none, (.r (.load 4 true (.tmp 3))), 0, []⟩,
⟨(some 22), none, (.p (.mv (.tmp 0))), 1, []⟩,
⟨(some 23), none, (.h (.call (.c (.fn 143 [] [])) [(.tmp 22)])), 2, [0]⟩,
⟨(some 24), none, (.a (.mkSl [(.str []), (.str []), (.int .i64 0), .nilsl] 4 2 [(0, (4, (.tmp 21))), (4, (4, (.tmp 23)))])), 3, []⟩,
⟨(some 25), none, (.h (.call (.c (.fn 28 [] [])) [(.c (.str [99, 97, 116])), (.tmp 24)])), 4, []⟩,
⟨none, none, (.h (.store 4 (.tmp 3) (.tmp 25))), 5, []⟩]))))))))⟩
theorem c138 : Mir.compF Tryz.prog Tryz.f138 = some g138 := by kernel_rfl
/-- (*scribe/parse.parser).match -/
def g139 : Mir.Fn := ⟨9, [(.cell 2 4 true)],
(.seq
(.ops [⟨(some 2), none, (.a (.alloc [(.str []), (.str []), (.int .i64 0), .nilsl])), 0, []⟩])
(.seq
(.ops [⟨(some 3), none, (.p (.mv (.tmp 0))), 0, []⟩,
⟨(some 4), none, (.p (.mv (.tmp 0))), 0, []⟩,
⟨(some 5), none, (.p (.mkFn 144 [(.tmp 4)] [])), 0, []⟩,
⟨(some 6), none, (.a .mkMap), 0, []⟩,
⟨none, none, (.h (.mapUpd (.one .str) (.tmp 6) (.c (.str [126])) (.c (.str [109, 97, 116, 99, 104])))), 0, []⟩,
⟨none, none, (.h (.mapUpd (.one .str) (.tmp 6) (.c (.str [33, 126])) (.c (.str [110, 111, 109, 97, 116, 99, 104])))), 0, []⟩,
⟨(some 7), none, (.p (.mv (.tmp 6))), 0, []⟩,
⟨(some 8), none, (.h (.call (.c (.fn 122 [] [])) [(.tmp 3), (.tmp 5), (.c (.bool false)), (.tmp 7)])), 0, []⟩,
⟨none, none, (.h (.store 4 (.tmp 2) (.tmp 8))), 0, []⟩])
.ret))⟩
theorem c139 : Mir.compF Tryz.prog Tryz.f139 = some g139 := by kernel_rfl
/-- internal/bytealg.Cutover -/
def g141 : Mir.Fn := ⟨6, [(.tmp 2)],
(.seq
(.ops [⟨(some 2), none, (.p (.mv (.c (.int .i64 0)))), 0, []⟩])
(.seq
(.ops [⟨(some 3), none, (.p (.mv (.tmp 0))), 0, []⟩,
⟨(some 4), none, (.p (.bin .add (.tmp 3) (.c (.int .i64 16)))), 0, []⟩,
⟨(some 5), none, (.p (.bin .quo (.tmp 4) (.c (.int .i64 8)))), 0, []⟩,
⟨(some 2), none, (.p (.mv (.tmp 5))), 0, []⟩])
.ret))⟩
theorem c141 : Mir.compF Tryz.prog Tryz.f141 = some g141 := by kernel_rfl
/-- internal/bytealg.IndexRabinKarp[string] -/
def g142 : Mir.Fn := ⟨81, [(.tmp 4)],
(.seq
(.ops [⟨(some 4), none, (.p (.mv (.c (.int .i64 0)))), 0, []⟩])
(.seq
(.ops [⟨(some 12), none, (.p (.mv (.tmp 1))), 0, []⟩,
⟨(some 13), none, (.h (.call (.c (.fn 145 [] [])) [(.tmp 12)])), 0, []⟩,
⟨(some 11), none, (.p (.mv (.tmp 13))), 0, []⟩,
⟨(some 14), none, (.p (.ext (.tmp 11) 0)), 0, []⟩,
⟨(some 15), none, (.p (.ext (.tmp 11) 1)), 0, []⟩,
⟨(some 5), none, (.p (.mv (.tmp 14))), 0, []⟩,
⟨(some 6), none, (.p (.mv (.tmp 15))), 0, []⟩])
(.seq
(.ops [⟨(some 16), none, (.p (.mv (.tmp 1))), 0, []⟩,
⟨(some 17), none, (.p (.lenStr (.tmp 16))), 0, []⟩,
⟨(some 7), none, (.p (.mv (.tmp 17))), 0, []⟩])
(.seq
(.ops [⟨(some 8), none, (.p (.mv (.c (.int .u32 0)))), 0, []⟩])
(.seq
(.seq
(.ops [⟨(some 9), none, (.p (.mv (.c (.int .i64 0)))), 0, []⟩])
(.block 0 (.loop (.seq
(.seq
(.ops [⟨(some 18), none, (.p (.mv (.tmp 9))), 0, []⟩,
⟨(some 19), none, (.p (.mv (.tmp 7))), 0, []⟩,
⟨(some 20), none, (.p (.bin .lss (.tmp 18) (.tmp 19))), 0, []⟩])
(.cond (.tmp 20)
.skip
(.exit 0)))
(.seq
(.block 1 (.ops [⟨(some 23), none, (.p (.mv (.tmp 8))), 0, []⟩,
⟨(some 24), none, (.p (.bin .mul (.tmp 23) (.c (.int .u32 16777619)))), 0, []⟩,
⟨(some 25), none, (.p (.mv (.tmp 0))), 0, []⟩,
⟨(some 26), none, (.p (.mv (.tmp 9))), 0, []⟩,
⟨(some 27), none, (.p (.idxStr (.tmp 25) (.tmp 26))), 0, []⟩,
⟨(some 28), none, (.p (.convInt .u32 (.tmp 27))), 0, []⟩,
⟨(some 29), none, (.p (.bin .add (.tmp 24) (.tmp 28))), 0, []⟩,
⟨(some 8), none, (.p (.mv (.tmp 29))), 0, []⟩]))
(.ops [⟨(some 21), none, (.p (.mv (.tmp 9))), 0, []⟩,
⟨(some 22), none, (.p (.bin .add (.tmp 21) (.c (.int .i64 1)))), 0, []⟩,
⟨(some 9), none, (.p (.mv (.tmp 22))), 0, []⟩]))))))
(.seq
(.seq
(.ops [⟨(some 30), none, (.p (.mv (.tmp 8))), 0, []⟩,
⟨(some 31), none, (.p (.mv (.tmp 5))), 0, []⟩,
⟨(some 32), none, (.p (.bin .eql (.tmp 30) (.tmp 31))), 0, []⟩,
⟨(some 33), none, (.p (.mv (.tmp 32))), 0, []⟩,
⟨(some 34), (some (33, true)), (.p (.mv (.tmp 0))), 0, []⟩,
⟨(some 35), (some (33, true)), (.p (.mv (.tmp 7))), 0, []⟩,
⟨(some 36), (some (33, true)), (.p (.subStr (.tmp 34) none (some (.tmp 35)))), 0, []⟩,
⟨(some 37), (some (33, true)), (.p (.mv (.tmp 1))), 0, []⟩,
⟨(some 38), (some (33, true)), (.p (.bin .eql (.tmp 36) (.tmp 37))), 0, []⟩,
⟨(some 39), none, (.p (.pick (.tmp 33) (.tmp 38) (.c (.bool false)))), 0, []⟩])
(.cond (.tmp 39)
(.seq
(.ops [⟨(some 4), none, (.p (.mv (.c (.int .i64 0)))), 0, []⟩])
.ret)
.skip))
(.seq
(.seq
(.ops [⟨(some 40), none, (.p (.mv (.tmp 7))), 0, []⟩,
⟨(some 10), none, (.p (.mv (.tmp 40))), 0, []⟩])
(.block 2 (.loop (.seq
(.seq
(.ops [⟨(some 41), none, (.p (.mv (.tmp 10))), 0, []⟩,
⟨(some 42), none, (.p (.mv (.tmp 0))), 0, []⟩,
⟨(some 43), none, (.p (.lenStr (.tmp 42))), 0, []⟩,
⟨(some 44), none, (.p (.bin .lss (.tmp 41) (.tmp 43))), 0, []⟩])
(.cond (.tmp 44)
.skip
(.exit 2)))
(.block 3 (.seq
(.ops [⟨(some 45), none, (.p (.mv (.tmp 8))), 0, []⟩,
⟨(some 46), none, (.p (.bin .mul (.tmp 45) (.c (.int .u32 16777619)))), 0, []⟩,
⟨(some 8), none, (.p (.mv (.tmp 46))), 0, []⟩])
(.seq
(.ops [⟨(some 47), none, (.p (.mv (.tmp 8))), 0, []⟩,
⟨(some 48), none, (.p (.mv (.tmp 0))), 0, []⟩,
⟨(some 49), none, (.p (.mv (.tmp 10))), 0, []⟩,
⟨(some 50), none, (.p (.idxStr (.tmp 48) (.tmp 49))), 0, []⟩,
⟨(some 51), none, (.p (.convInt .u32 (.tmp 50))), 0, []⟩,
⟨(some 52), none, (.p (.bin .add (.tmp 47) (.tmp 51))), 0, []⟩,
⟨(some 8), none, (.p (.mv (.tmp 52))), 0, []⟩])
(.seq
(.ops [⟨(some 53), none, (.p (.mv (.tmp 8))), 0, []⟩,
⟨(some 54), none, (.p (.mv (.tmp 6))), 0, []⟩,
⟨(some 55), none, (.p (.mv (.tmp 0))), 0, []⟩,
⟨(some 56), none, (.p (.mv (.tmp 10))), 0, []⟩,
⟨(some 57), none, (.p (.mv (.tmp 7))), 0, []⟩,
⟨(some 58), none, (.p (.bin .sub (.tmp 56) (.tmp 57))), 0, []⟩,
⟨(some 59), none, (.p (.idxStr (.tmp 55) (.tmp 58))), 0, []⟩,
⟨(some 60), none, (.p (.convInt .u32 (.tmp 59))), 0, []⟩,
⟨(some 61), none, (.p (.bin .mul (.tmp 54) (.tmp 60))), 0, []⟩,
⟨(some 62), none, (.p (.bin .sub (.tmp 53) (.tmp 61))), 0, []⟩,
⟨(some 8), none, (.p (.mv (.tmp 62))), 0, []⟩])
(.seq
(.ops [⟨(some 63), none, (.p (.mv (.tmp 10))), 0, []⟩,
⟨(some 64), none, (.p (.bin .add (.tmp 63) (.c (.int .i64 1)))), 0, []⟩,
⟨(some 10), none, (.p (.mv (.tmp 64))), 0, []⟩])
(.seq
(.ops [⟨(some 65), none, (.p (.mv (.tmp 8))), 0, []⟩,
⟨(some 66), none, (.p (.mv (.tmp 5))), 0, []⟩,
⟨(some 67), none, (.p (.bin .eql (.tmp 65) (.tmp 66))), 0, []⟩,
⟨(some 68), none, (.p (.mv (.tmp 67))), 0, []⟩,
⟨(some 69), (some (68, true)), (.p (.mv (.tmp 0))), 0, []⟩,
⟨(some 70), (some (68, true)), (.p (.mv (.tmp 10))), 0, []⟩,
⟨(some 71), (some (68, true)), (.p (.mv (.tmp 7))), 0, []⟩,
⟨(some 72), (some (68, true)), (.p (.bin .sub (.tmp 70) (.tmp 71))), 0, []⟩,
⟨(some 73), (some (68, true)), (.p (.mv (.tmp 10))), 0, []⟩,
⟨(some 74), (some (68, true)), (.p (.subStr (.tmp 69) (some (.tmp 72)) (some (.tmp 73)))), 0, []⟩,
⟨(some 75), (some (68, true)), (.p (.mv (.tmp 1))), 0, []⟩,
⟨(some 76), (some (68, true)), (.p (.bin .eql (.tmp 74) (.tmp 75))), 0, []⟩,
⟨(some 77), none, (.p (.pick (.tmp 68) (.tmp 76) (.c (.bool false)))), 0, []⟩])
(.cond (.tmp 77)
(.seq
(.ops [⟨(some 78), none, (.p (.mv (.tmp 10))), 0, []⟩,
⟨(some 79), none, (.p (.mv (.tmp 7))), 0, []⟩,
⟨(some 80), none, (.p (.bin .sub (.tmp 78) (.tmp 79))), 0, []⟩,
⟨(some 4), none, (.p (.mv (.tmp 80))), 0, []⟩])
.ret)
.skip)))))))))))
(.seq
(.ops [⟨(some 4), none, (.p (.mv (.c (.int .i64 (-1))))), 0, []⟩])
.ret))))))))⟩
theorem c142 : Mir.compF Tryz.prog Tryz.f142 = some g142 := by kernel_rfl
/-- (*scribe/parse.parser).add -/
def g143 : Mir.Fn := ⟨9, [(.cell 2 4 true)],
(.seq
(.ops [⟨(some 2), none, (.a (.alloc [(.str []), (.str []), (.int .i64 0), .nilsl])), 0, []⟩])
(.seq
(.ops [⟨(some 3), none, (.p (.mv (.tmp 0))), 0, []⟩,
⟨(some 4), none, (.p (.mv (.tmp 0))), 0, []⟩,
⟨(some 5), none, (.p (.mkFn 146 [(.tmp 4)] [])), 0, []⟩,
⟨(some 6), none, (.a .mkMap), 0, []⟩,
⟨none, none, (.h (.mapUpd (.one .str) (.tmp 6) (.c (.str [43])) (.c (.str [97, 100, 100])))), 0, []⟩,
⟨none, none, (.h (.mapUpd (.one .str) (.tmp 6) (.c (.str [45])) (.c (.str [115, 117, 98])))), 0, []⟩,
⟨(some 7), none, (.p (.mv (.tmp 6))), 0, []⟩,
⟨(some 8), none, (.h (.call (.c (.fn 122 [] [])) [(.tmp 3), (.tmp 5), (.c (.bool false)), (.tmp 7)])), 0, []⟩,
⟨none, none, (.h (.store 4 (.tmp 2) (.tmp 8))), 0, []⟩])
.ret))⟩
theorem c143 : Mir.compF Tryz.prog Tryz.f143 = some g143 := by kernel_rfl
/-- (*scribe/parse.parser).rel -/
def g144 : Mir.Fn := ⟨42, [(.cell 2 4 true)],
(.seq
(.ops [⟨(some 2), none, (.a (.alloc [(.str []), (.str []), (.int .i64 0), .nilsl])), 0, []⟩])
(.seq
(.ops [⟨(some 6), none, (.p (.mv (.tmp 0))), 0, []⟩,
⟨(some 7), none, (.h (.call (.c (.fn 138 [] [])) [(.tmp 6)])), 0, []⟩,
⟨(some 3), none, (.a (.alloc [(.str []), (.str []), (.int .i64 0), .nilsl])), 0, []⟩,
⟨none, none, (.h (.store 4 (.tmp 3) (.tmp 7))), 0, []⟩])
(.seq
(.ops [⟨(some 8), none, (.p (.mv (.tmp 0))), 0, []⟩,
⟨(some 9), none, (.h (.call (.c (.fn 30 [] [])) [(.tmp 8)])), 0, []⟩,
⟨(some 4), none, (.a (.alloc [(.int .i64 0), (.str []), (.int .i64 0)])), 0, []⟩,
⟨none, none, (.h (.store 3 (.tmp 4) (.tmp 9))), 0, []⟩])
(.seq
(.ops [⟨(some 10), none, (.a .mkMap), 0, []⟩,
⟨none, none, (.h (.mapUpd (.one .str) (.tmp 10) (.c (.str [60])) (.c (.str [108, 101, 115, 115])))), 0, []⟩,
⟨none, none, (.h (.mapUpd (.one .str) (.tmp 10) (.c (.str [60, 61])) (.c (.str [108, 101, 115, 115, 101, 113])))), 0, []⟩,
⟨none, none, (.h (.mapUpd (.one .str) (.tmp 10) (.c (.str [61, 61])) (.c (.str [101, 113, 117, 97, 108])))), 0, []⟩,
⟨none, none, (.h (.mapUpd (.one .str) (.tmp 10) (.c (.str [33, 61])) (.c (.str [110, 111, 116, 101, 113, 117, 97, 108])))), 0, []⟩,
⟨none, none, (.h (.mapUpd (.one .str) (.tmp 10) (.c (.str [62])) (.c (.str [103, 114, 101, 97, 116, 101, 114])))), 0, []⟩,
⟨none, none, (.h (.mapUpd (.one .str) (.tmp 10) (.c (.str [62, 61])) (.c (.str [103, 114, 101, 97, 116, 101, 114, 101, 113])))), 0, []⟩,
⟨(some 11), none, (.p (.mv (.tmp 10))), 0, []⟩,
⟨(some 12), none, (.p (.fieldAt 1 (.tmp 4))), 0, []⟩,
⟨(some 13), none, (.r (.load 1 false (.tmp 12))), 0, []⟩,
⟨(some 14), none, (.r (.lookup (.one .str) (.str []) false (.tmp 11) (.tmp 13))), 0, []⟩,
⟨(some 5), none, (.p (.mv (.tmp 14))), 0, []⟩])
(.seq
(.seq
(.ops [⟨(some 15), none, (.p (.fieldAt 0 (.tmp 4))), 0, []⟩,
⟨(some 16), none, (.r (.load 1 false (.tmp 15))), 0, []⟩,
⟨(some 17), none, (.p (.bin .neq (.tmp 16) (.c (.int .i64 8)))), 0, []⟩,
⟨(some 18), none, (.p (.mv (.tmp 17))), 0, []⟩,
⟨(some 19), (some (18, false)), (.p (.mv (.tmp 5))), 0, []⟩,
⟨(some 20), (some (18, false)), (.p (.bin .eql (.tmp 19) (.c (.str [])))), 0, []⟩,
⟨(some 21), none, (.p (.pick (.tmp 18) (.c (.bool true)) (.tmp 20))), 0, []⟩,
⟨(some 22), none, (.p (.mv (.tmp 21))), 0, []⟩,
⟨(some 23), (some (22, false)), (.p (.fieldAt 1 (.tmp 4))), 0, []⟩,
⟨(some 24), (some (22, false)), (.r (.load 1 false (.tmp 23))), 0, []⟩,
⟨(some 25), (some (22, false)), (.p (.bin .eql (.tmp 24) (.c (.str [62])))), 0, []⟩,
⟨(some 26), (some (22, false)), (.p (.mv (.tmp 25))), 0, []⟩,
⟨(some 27), (some (26, true)), (.p (.mv (.tmp 0))), 0, []⟩,
⟨(some 28), (some (26, true)), (.p (.nilchk (.tmp 27))), 0, []⟩,
⟨(some 29), (some (26, true)), (.p (.fieldAt 3 (.tmp 28))), 0, []⟩,
⟨(some 30), (some (26, true)), (.r (.load 1 false (.tmp 29))), 0, []⟩,
⟨(some 31), (some (22, false)), (.p (.pick (.tmp 26) (.tmp 30) (.c (.bool false)))), 0, []⟩,
⟨(some 32), none, (.p (.pick (.tmp 22) (.c (.bool true)) (.tmp 31))), 0, []⟩])
(.cond (.tmp 32)
(.seq
(.ops [⟨(some 33), none, (.r (.load 4 true (.tmp 3))), 0, []⟩,
⟨none, none, (.h (.store 4 (.tmp 2) (.tmp 33))), 0, []⟩])
.ret)
.skip))
(.seq
(.ops [⟨(some 34), none, (.p (.mv (.tmp 0))), 0, []⟩,
⟨(some 35), none, (.h (.call (.c (.fn 31 [] [])) [(.tmp 34)])), 0, []⟩])
(.seq
(.draw [⟨(some 36), none, (.p (.mv (.tmp 5))), 0, []⟩,
⟨(some 37), none, (.r (.load 4 true (.tmp 3))), 1, []⟩,
⟨(some 38), none, (.p (.mv (.tmp 0))), 2, []⟩,
⟨(some 39), none, (.h (.call (.c (.fn 138 [] [])) [(.tmp 38)])), 3, [1]⟩,
⟨(some 40), none, (.a (.mkSl [(.str []), (.str []), (.int .i64 0), .nilsl] 4 2 [(0, (4, (.tmp 37))), (4, (4, (.tmp 39)))])), 4, []⟩,
⟨(some 41), none, (.h (.call (.c (.fn 28 [] [])) [(.tmp 36), (.tmp 40)])), 5, []⟩,
⟨none, none, (.h (.store 4 (.tmp 2) (.tmp 41))), 6, []⟩])
.ret)))))))⟩
theorem c144 : Mir.compF Tryz.prog Tryz.f144 = some g144 := by kernel_rfl
/-- internal/bytealg.hashStr[string] -/
def g145 : Mir.Fn := ⟨39, [(.tmp 2), (.tmp 3)],
(.seq
(.ops [⟨(some 2), none, (.p (.mv (.c (.int .u32 0)))), 0, []⟩,
⟨(some 3), none, (.p (.mv (.c (.int .u32 0)))), 0, []⟩])
(.seq
(.ops [⟨(some 4), none, (.p (.mv (.c (.int .u32 0)))), 0, []⟩])
(.seq
(.seq
(.ops [⟨(some 5), none, (.p (.mv (.c (.int .i64 0)))), 0, []⟩])
(.block 0 (.loop (.seq
(.seq
(.ops [⟨(some 9), none, (.p (.mv (.tmp 5))), 0, []⟩,
⟨(some 10), none, (.p (.mv (.tmp 0))), 0, []⟩,
⟨(some 11), none, (.p (.lenStr (.tmp 10))), 0, []⟩,
⟨(some 12), none, (.p (.bin .lss (.tmp 9) (.tmp 11))), 0, []⟩])
(.cond (.tmp 12)
.skip
(.exit 0)))
(.seq
(.block 1 (.ops [⟨(some 15), none, (.p (.mv (.tmp 4))), 0, []⟩,
⟨(some 16), none, (.p (.bin .mul (.tmp 15) (.c (.int .u32 16777619)))), 0, []⟩,
⟨(some 17), none, (.p (.mv (.tmp 0))), 0, []⟩,
⟨(some 18), none, (.p (.mv (.tmp 5))), 0, []⟩,
⟨(some 19), none, (.p (.idxStr (.tmp 17) (.tmp 18))), 0, []⟩,
⟨(some 20), none, (.p (.convInt .u32 (.tmp 19))), 0, []⟩,
⟨(some 21), none, (.p (.bin .add (.tmp 16) (.tmp 20))), 0, []⟩,
⟨(some 4), none, (.p (.mv (.tmp 21))), 0, []⟩]))
(.ops [⟨(some 13), none, (.p (.mv (.tmp 5))), 0, []⟩,
⟨(some 14), none, (.p (.bin .add (.tmp 13) (.c (.int .i64 1)))), 0, []⟩,
⟨(some 5), none, (.p (.mv (.tmp 14))), 0, []⟩]))))))
(.seq
(.ops [⟨(some 6), none, (.p (.mv (.c (.int .u32 1)))), 0, []⟩,
⟨(some 7), none, (.p (.mv (.c (.int .u32 16777619)))), 0, []⟩])
(.seq
(.seq
(.ops [⟨(some 22), none, (.p (.mv (.tmp 0))), 0, []⟩,
⟨(some 23), none, (.p (.lenStr (.tmp 22))), 0, []⟩,
⟨(some 8), none, (.p (.mv (.tmp 23))), 0, []⟩])
(.block 2 (.loop (.seq
(.seq
(.ops [⟨(some 24), none, (.p (.mv (.tmp 8))), 0, []⟩,
⟨(some 25), none, (.p (.bin .gtr (.tmp 24) (.c (.int .i64 0)))), 0, []⟩])
(.cond (.tmp 25)
.skip
(.exit 2)))
(.seq
(.block 3 (.seq
(.seq
(.ops [⟨(some 28), none, (.p (.mv (.tmp 8))), 0, []⟩,
⟨(some 29), none, (.p (.bin .and (.tmp 28) (.c (.int .i64 1)))), 0, []⟩,
⟨(some 30), none, (.p (.bin .neq (.tmp 29) (.c (.int .i64 0)))), 0, []⟩])
(.cond (.tmp 30)
(.ops [⟨(some 31), none, (.p (.mv (.tmp 6))), 0, []⟩,
⟨(some 32), none, (.p (.mv (.tmp 7))), 0, []⟩,
⟨(some 33), none, (.p (.bin .mul (.tmp 31) (.tmp 32))), 0, []⟩,
⟨(some 6), none, (.p (.mv (.tmp 33))), 0, []⟩])
.skip))
(.ops [⟨(some 34), none, (.p (.mv (.tmp 7))), 0, []⟩,
⟨(some 35), none, (.p (.mv (.tmp 7))), 0, []⟩,
⟨(some 36), none, (.p (.bin .mul (.tmp 34) (.tmp 35))), 0, []⟩,
⟨(some 7), none, (.p (.mv (.tmp 36))), 0, []⟩])))
(.ops [⟨(some 26), none, (.p (.mv (.tmp 8))), 0, []⟩,
⟨(some 27), none, (.p (.bin .shr (.tmp 26) (.c (.int .u64 1)))), 0, []⟩,
⟨(some 8), none, (.p (.mv (.tmp 27))), 0, []⟩]))))))
(.seq
(.ops [⟨(some 37), none, (.p (.mv (.tmp 4))), 0, []⟩,
⟨(some 38), none, (.p (.mv (.tmp 6))), 0, []⟩,
⟨(some 2), none, (.p (.mv (.tmp 37))), 0, []⟩,
⟨(some 3), none, (.p (.mv (.tmp 38))), 0, []⟩])
.ret))))))⟩
theorem c145 : Mir.compF Tryz.prog Tryz.f145 = some g145 := by kernel_rfl
/-- (*scribe/parse.parser).mul -/
def g146 : Mir.Fn := ⟨9, [(.cell 2 4 true)],
(.seq
(.ops [⟨(some 2), none, (.a (.alloc [(.str []), (.str []), (.int .i64 0), .nilsl])), 0, []⟩])
(.seq
(.ops [⟨(some 3), none, (.p (.mv (.tmp 0))), 0, []⟩,
⟨(some 4), none, (.p (.mv (.tmp 0))), 0, []⟩,
⟨(some 5), none, (.p (.mkFn 147 [(.tmp 4)] [])), 0, []⟩,
⟨(some 6), none, (.a .mkMap), 0, []⟩,
⟨none, none, (.h (.mapUpd (.one .str) (.tmp 6) (.c (.str [42])) (.c (.str [109, 117, 108])))), 0, []⟩,
⟨none, none, (.h (.mapUpd (.one .str) (.tmp 6) (.c (.str [47])) (.c (.str [100, 105, 118])))), 0, []⟩,
⟨none, none, (.h (.mapUpd (.one .str) (.tmp 6) (.c (.str [37])) (.c (.str [109, 111, 100])))), 0, []⟩,
⟨(some 7), none, (.p (.mv (.tmp 6))), 0, []⟩,
⟨(some 8), none, (.h (.call (.c (.fn 122 [] [])) [(.tmp 3), (.tmp 5), (.c (.bool false)), (.tmp 7)])), 0, []⟩,
⟨none, none, (.h (.store 4 (.tmp 2) (.tmp 8))), 0, []⟩])
.ret))⟩
theorem c146 : Mir.compF Tryz.prog Tryz.f146 = some g146 := by kernel_rfl
/-- (*scribe/parse.parser).unary -/
def g147 : Mir.Fn := ⟨26, [(.cell 2 4 true)],
(.seq
(.ops [⟨(some 2), none, (.a (.alloc [(.str []), (.str []), (.int .i64 0), .nilsl])), 0, []⟩])
(.seq
(.seq
(.ops [⟨(some 5), none, (.a .mkMap), 0, []⟩,
⟨none, none, (.h (.mapUpd (.one .str) (.tmp 5) (.c (.str [33])) (.c (.str [110, 111, 116])))), 0, []⟩,
⟨none, none, (.h (.mapUpd (.one .str) (.tmp 5) (.c (.str [45])) (.c (.str [110, 101, 103])))), 0, []⟩,
⟨none, none, (.h (.mapUpd (.one .str) (.tmp 5) (.c (.str [43])) (.c (.str [112, 108, 117, 115])))), 0, []⟩,
⟨(some 6), none, (.p (.mv (.tmp 5))), 0, []⟩,
⟨(some 7), none, (.h (.range (.tmp 6))), 0, []⟩])
(.block 0 (.loop (.seq
(.ops [⟨(some 8), none, (.h (.next (.tmp 7))), 0, []⟩,
⟨(some 9), none, (.p (.ext (.tmp 8) 0)), 0, []⟩])
(.seq
(.cond (.tmp 9)
.skip
(.exit 0))
(.block 1 (.seq
(.ops [⟨(some 10), none, (.r (.entry (.tmp 7))), 0, []⟩,
⟨(some 11), none, (.p (.ext (.tmp 10) 0)), 0, []⟩,
⟨(some 12), none, (.p (.ext (.tmp 10) 1)), 0, []⟩,
⟨(some 3), none, (.p (.mv (.tmp 11))), 0, []⟩,
⟨(some 4), none, (.p (.mv (.tmp 12))), 0, []⟩])
(.seq
(.ops [⟨(some 13), none, (.p (.mv (.tmp 0))), 0, []⟩,
⟨(some 14), none, (.p (.mv (.tmp 3))), 0, []⟩,
⟨(some 15), none, (.h (.call (.c (.fn 51 [] [])) [(.tmp 13), (.tmp 14)])), 0, []⟩])
(.cond (.tmp 15)
(.seq
(.ops [⟨(some 16), none, (.p (.mv (.tmp 0))), 0, []⟩,
⟨(some 17), none, (.h (.call (.c (.fn 92 [] [])) [(.tmp 16)])), 0, []⟩])
(.seq
(.ops [⟨(some 18), none, (.p (.mv (.tmp 0))), 0, []⟩,
⟨none, none, (.h (.dfr (.c (.fn 93 [] [])) [(.tmp 18)])), 0, []⟩])
(.seq
(.ops [⟨(some 19), none, (.p (.mv (.tmp 4))), 0, []⟩,
⟨(some 20), none, (.p (.mv (.tmp 0))), 0, []⟩,
⟨(some 21), none, (.h (.call (.c (.fn 147 [] [])) [(.tmp 20)])), 0, []⟩,
⟨(some 22), none, (.a (.mkSl [(.str []), (.str []), (.int .i64 0), .nilsl] 4 1 [(0, (4, (.tmp 21)))])), 0, []⟩,
⟨(some 23), none, (.h (.call (.c (.fn 28 [] [])) [(.tmp 19), (.tmp 22)])), 0, []⟩,
⟨none, none, (.h (.store 4 (.tmp 2) (.tmp 23))), 0, []⟩])
.ret)))
.skip)))))))))
(.seq
(.ops [⟨(some 24), none, (.p (.mv (.tmp 0))), 0, []⟩,
⟨(some 25), none, (.h (.call (.c (.fn 148 [] [])) [(.tmp 24)])), 0, []⟩,
⟨none, none, (.h (.store 4 (.tmp 2) (.tmp 25))), 0, []⟩])
.ret)))⟩
theorem c147 : Mir.compF Tryz.prog Tryz.f147 = some g147 := by kernel_rfl
/-- (*scribe/parse.parser).post -/
def g148 : Mir.Fn := ⟨49, [(.cell 2 4 true)],
(.seq
(.ops [⟨(some 2), none, (.a (.alloc [(.str []), (.str []), (.int .i64 0), .nilsl])), 0, []⟩])
(.seq
(.seq
(.ops [⟨(some 7), none, (.a (.mkSl [(.str [])] 1 2 [(0, (1, (.c (.str [43, 43])))), (1, (1, (.c (.str [45, 45]))))])), 0, []⟩,
⟨(some 8), none, (.p (.lenSl (.tmp 7))), 0, []⟩,
⟨(some 9), none, (.p (.mv (.c (.int .i64 0)))), 0, []⟩])
(.block 0 (.loop (.seq
(.ops [⟨(some 10), none, (.p (.bin .lss (.tmp 9) (.tmp 8))), 0, []⟩])
(.seq
(.cond (.tmp 10)
.skip
(.exit 0))
(.seq
(.block 1 (.seq
(.ops [⟨(some 11), none, (.p (.idxSl 1 (.tmp 7) (.tmp 9))), 0, []⟩,
⟨(some 12), none, (.r (.load 1 false (.tmp 11))), 0, []⟩,
⟨(some 4), none, (.p (.mv (.tmp 12))), 0, []⟩])
(.seq
(.seq
(.ops [⟨(some 13), none, (.p (.mv (.tmp 0))), 0, []⟩,
⟨(some 14), none, (.p (.mv (.tmp 4))), 0, []⟩,
⟨(some 15), none, (.h (.call (.c (.fn 51 [] [])) [(.tmp 13), (.tmp 14)])), 0, []⟩,
⟨(some 16), none, (.p (.un .not (.tmp 15))), 0, []⟩])
(.cond (.tmp 16)
(.exit 1)
.skip))
(.seq
(.seq
(.ops [⟨(some 17), none, (.p (.mv (.tmp 0))), 0, []⟩,
⟨(some 18), none, (.h (.call (.c (.fn 149 [] [])) [(.tmp 17)])), 0, []⟩,
⟨(some 5), none, (.a (.alloc [(.str []), (.str []), (.int .i64 0), .nilsl])), 0, []⟩,
⟨none, none, (.h (.store 4 (.tmp 5) (.tmp 18))), 0, []⟩])
(.seq
(.ops [⟨(some 19), none, (.r (.load 4 true (.tmp 5))), 0, []⟩,
⟨(some 20), none, (.h (.call (.c (.fn 95 [] [])) [(.tmp 19)])), 0, []⟩])
(.cond (.tmp 20)
(.seq
(.ops [⟨(some 21), none, (.a .mkMap), 0, []⟩,
⟨none, none, (.h (.mapUpd (.one .str) (.tmp 21) (.c (.str [43, 43])) (.c (.str [112, 114, 101, 105, 110, 99])))), 0, []⟩,
⟨none, none, (.h (.mapUpd (.one .str) (.tmp 21) (.c (.str [45, 45])) (.c (.str [112, 114, 101, 100, 101, 99])))), 0, []⟩,
⟨(some 22), none, (.p (.mv (.tmp 21))), 0, []⟩,
⟨(some 23), none, (.p (.mv (.tmp 4))), 0, []⟩,
⟨(some 24), none, (.r (.lookup (.one .str) (.str []) false (.tmp 22) (.tmp 23))), 0, []⟩,
⟨(some 25), none, (.r (.load 4 true (.tmp 5))), 0, []⟩,
⟨(some 26), none, (.a (.mkSl [(.str []), (.str []), (.int .i64 0), .nilsl] 4 1 [(0, (4, (.tmp 25)))])), 0, []⟩,
⟨(some 27), none, (.h (.call (.c (.fn 28 [] [])) [(.tmp 24), (.tmp 26)])), 0, []⟩,
⟨none, none, (.h (.store 4 (.tmp 2) (.tmp 27))), 0, []⟩])
.ret)
.skip)))
(.seq
(.ops [⟨(some 28), none, (.p (.mv (.tmp 0))), 0, []⟩,
⟨(some 29), none, (.h (.call (.c (.fn 58 [] [])) [(.tmp 28)])), 0, []⟩])
(.seq
(.ops [⟨(some 30), none, (.p (.build [(.str []), (.str []), (.int .i64 0), .nilsl] [])), 0, []⟩,
⟨none, none, (.h (.store 4 (.tmp 2) (.tmp 30))), 0, []⟩])
.ret))))))
(.ops [⟨(some 31), none, (.p (.bin .add (.tmp 9) (.c (.int .i64 1)))), 0, []⟩,
⟨(some 9), none, (.p (.mv (.tmp 31))), 0, []⟩])))))))
(.seq
(.ops [⟨(some 32), none, (.p (.mv (.tmp 0))), 0, []⟩,
⟨(some 33), none, (.h (.call (.c (.fn 149 [] [])) [(.tmp 32)])), 0, []⟩,
⟨(some 6), none, (.a (.alloc [(.str []), (.str []), (.int .i64 0), .nilsl])), 0, []⟩,
⟨none, none, (.h (.store 4 (.tmp 6) (.tmp 33))), 0, []⟩])
(.seq
(.seq
(.ops [⟨(some 34), none, (.r (.load 4 true (.tmp 6))), 0, []⟩,
⟨(some 35), none, (.h (.call (.c (.fn 95 [] [])) [(.tmp 34)])), 0, []⟩,
⟨(some 36), none, (.p (.un .not (.tmp 35))), 0, []⟩])
(.cond (.tmp 36)
(.seq
(.ops [⟨(some 37), none, (.r (.load 4 true (.tmp 6))), 0, []⟩,
⟨none, none, (.h (.store 4 (.tmp 2) (.tmp 37))), 0, []⟩])
.ret)
.skip))
(.seq
(.seq
(.ops [⟨(some 38), none, (.p (.mv (.tmp 0))), 0, []⟩,
⟨(some 39), none, (.h (.call (.c (.fn 51 [] [])) [(.tmp 38), (.c (.str [43, 43]))])), 0, []⟩])
(.cond (.tmp 39)
(.seq
(.ops [⟨(some 40), none, (.r (.load 4 true (.tmp 6))), 0, []⟩,
⟨(some 41), none, (.a (.mkSl [(.str []), (.str []), (.int .i64 0), .nilsl] 4 1 [(0, (4, (.tmp 40)))])), 0, []⟩,
⟨(some 42), none, (.h (.call (.c (.fn 28 [] [])) [(.c (.str [112, 111, 115, 116, 105, 110, 99])), (.tmp 41)])), 0, []⟩,
⟨none, none, (.h (.store 4 (.tmp 2) (.tmp 42))), 0, []⟩])
.ret)
.skip))
(.seq
(.seq
(.ops [⟨(some 43), none, (.p (.mv (.tmp 0))), 0, []⟩,
⟨(some 44), none, (.h (.call (.c (.fn 51 [] [])) [(.tmp 43), (.c (.str [45, 45]))])), 0, []⟩])
(.cond (.tmp 44)
(.seq
(.ops [⟨(some 45), none, (.r (.load 4 true (.tmp 6))), 0, []⟩,
⟨(some 46), none, (.a (.mkSl [(.str []), (.str []), (.int .i64 0), .nilsl] 4 1 [(0, (4, (.tmp 45)))])), 0, []⟩,
⟨(some 47), none, (.h (.call (.c (.fn 28 [] [])) [(.c (.str [112, 111, 115, 116, 100, 101, 99])), (.tmp 46)])), 0, []⟩,
⟨none, none, (.h (.store 4 (.tmp 2) (.tmp 47))), 0, []⟩])
.ret)
.skip))
(.seq
(.ops [⟨(some 48), none, (.r (.load 4 true (.tmp 6))), 0, []⟩,
⟨none, none, (.h (.store 4 (.tmp 2) (.tmp 48))), 0, []⟩])
.ret)))))))⟩
theorem c148 : Mir.compF Tryz.prog Tryz.f148 = some g148 := by kernel_rfl
/-- (*scribe/parse.parser).primary -/
def g149 : Mir.Fn := ⟨102, [(.cell 2 4 true)],
(.seq
(.ops [⟨(some 2), none, (.a (.alloc [(.str []), (.str []), (.int .i64 0), .nilsl])), 0, []⟩])
(.seq
(.ops [⟨(some 7), none, (.p (.mv (.tmp 0))), 0, []⟩,
⟨(some 8), none, (.h (.call (.c (.fn 30 [] [])) [(.tmp 7)])), 0, []⟩,
⟨(some 3), none, (.a (.alloc [(.int .i64 0), (.str []), (.int .i64 0)])), 0, []⟩,
⟨none, none, (.h (.store 3 (.tmp 3) (.tmp 8))), 0, []⟩])
(.seq
(.block 0 (.seq
(.ops [⟨(some 10), none, (.p (.fieldAt 0 (.tmp 3))), 0, []⟩,
⟨(some 11), none, (.r (.load 1 false (.tmp 10))), 0, []⟩,
⟨(some 12), none, (.p (.bin .eql (.tmp 11) (.c (.int .i64 2)))), 0, []⟩,
⟨(some 9), none, (.p (.mv (.tmp 12))), 0, []⟩])
(.cond (.tmp 9)
(.seq
(.ops [⟨(some 13), none, (.p (.mv (.tmp 0))), 0, []⟩,
⟨(some 14), none, (.h (.call (.c (.fn 31 [] [])) [(.tmp 13)])), 0, []⟩])
(.seq
(.ops [⟨(some 15), none, (.r (.load 3 true (.tmp 3))), 0, []⟩,
⟨(some 16), none, (.h (.call (.c (.fn 53 [] [])) [(.c (.str [110, 117, 109])), (.tmp 15), (.c .nilsl)])), 0, []⟩,
⟨none, none, (.h (.store 4 (.tmp 2) (.tmp 16))), 0, []⟩])
.ret))
(.seq
(.ops [⟨(some 18), none, (.p (.fieldAt 0 (.tmp 3))), 0, []⟩,
⟨(some 19), none, (.r (.load 1 false (.tmp 18))), 0, []⟩,
⟨(some 20), none, (.p (.bin .eql (.tmp 19) (.c (.int .i64 3)))), 0, []⟩,
⟨(some 17), none, (.p (.mv (.tmp 20))), 0, []⟩])
(.cond (.tmp 17)
(.seq
(.ops [⟨(some 21), none, (.p (.mv (.tmp 0))), 0, []⟩,
⟨(some 22), none, (.h (.call (.c (.fn 31 [] [])) [(.tmp 21)])), 0, []⟩])
(.seq
(.ops [⟨(some 23), none, (.r (.load 3 true (.tmp 3))), 0, []⟩,
⟨(some 24), none, (.h (.call (.c (.fn 53 [] [])) [(.c (.str [115, 116, 114])), (.tmp 23), (.c .nilsl)])), 0, []⟩,
⟨none, none, (.h (.store 4 (.tmp 2) (.tmp 24))), 0, []⟩])
.ret))
(.seq
(.ops [⟨(some 26), none, (.p (.fieldAt 0 (.tmp 3))), 0, []⟩,
⟨(some 27), none, (.r (.load 1 false (.tmp 26))), 0, []⟩,
⟨(some 28), none, (.p (.bin .eql (.tmp 27) (.c (.int .i64 4)))), 0, []⟩,
⟨(some 25), none, (.p (.mv (.tmp 28))), 0, []⟩])
(.cond (.tmp 25)
(.seq
(.seq
(.ops [⟨(some 30), none, (.p (.fieldAt 1 (.tmp 3))), 0, []⟩,
⟨(some 31), none, (.r (.load 1 false (.tmp 30))), 0, []⟩,
⟨(some 32), none, (.h (.call (.c (.fn 150 [] [])) [(.tmp 31)])), 0, []⟩,
⟨(some 29), none, (.p (.mv (.tmp 32))), 0, []⟩,
⟨(some 33), none, (.p (.ext (.tmp 29) 0)), 0, []⟩,
⟨(some 34), none, (.p (.ext (.tmp 29) 1)), 0, []⟩,
⟨(some 35), none, (.p (.ext (.tmp 29) 2)), 0, []⟩,
⟨(some 4), none, (.a (.alloc [(.int .i64 0), (.int .u64 0), (.int .u64 0), (.int .u64 0), (.int .u64 0), .nilsl])), 0, []⟩,
⟨none, none, (.h (.store 6 (.tmp 4) (.tmp 33))), 0, []⟩,
⟨(some 5), none, (.p (.mv (.tmp 34))), 0, []⟩,
⟨(some 6), none, (.p (.mv (.tmp 35))), 0, []⟩])
(.seq
(.ops [⟨(some 36), none, (.p (.mv (.tmp 6))), 0, []⟩,
⟨(some 37), none, (.p (.bin .neq (.tmp 36) (.c (.int .i64 0)))), 0, []⟩])
(.cond (.tmp 37)
(.ops [⟨(some 38), none, (.p (.mv (.tmp 0))), 0, []⟩,
⟨(some 39), none, (.h (.call (.c (.fn 58 [] [])) [(.tmp 38)])), 0, []⟩])
.skip)))
(.seq
(.ops [⟨(some 40), none, (.p (.mv (.tmp 0))), 0, []⟩,
⟨(some 41), none, (.h (.call (.c (.fn 31 [] [])) [(.tmp 40)])), 0, []⟩])
(.seq
(.ops [⟨(some 42), none, (.r (.load 3 true (.tmp 3))), 0, []⟩,
⟨(some 43), none, (.h (.call (.c (.fn 53 [] [])) [(.c (.str [114, 101])), (.tmp 42), (.c .nilsl)])), 0, []⟩,
⟨none, none, (.h (.store 4 (.tmp 2) (.tmp 43))), 0, []⟩])
.ret)))
(.seq
(.ops [⟨(some 45), none, (.p (.fieldAt 0 (.tmp 3))), 0, []⟩,
⟨(some 46), none, (.r (.load 1 false (.tmp 45))), 0, []⟩,
⟨(some 47), none, (.p (.bin .eql (.tmp 46) (.c (.int .i64 5)))), 0, []⟩,
⟨(some 44), none, (.p (.mv (.tmp 47))), 0, []⟩])
(.cond (.tmp 44)
(.seq
(.ops [⟨(some 48), none, (.p (.mv (.tmp 0))), 0, []⟩,
⟨(some 49), none, (.h (.call (.c (.fn 31 [] [])) [(.tmp 48)])), 0, []⟩])
(.seq
(.seq
(.ops [⟨(some 50), none, (.p (.mv (.tmp 0))), 0, []⟩,
⟨(some 51), none, (.h (.call (.c (.fn 51 [] [])) [(.tmp 50), (.c (.str [91]))])), 0, []⟩])
(.cond (.tmp 51)
(.seq
(.draw [⟨(some 52), none, (.r (.load 3 true (.tmp 3))), 0, []⟩,
⟨(some 53), none, (.p (.mv (.tmp 0))), 1, []⟩,
⟨(some 54), none, (.h (.call (.c (.fn 116 [] [])) [(.tmp 53), (.c (.str [93]))])), 2, [0]⟩,
⟨(some 55), none, (.a (.mkSl [(.str []), (.str []), (.int .i64 0), .nilsl] 4 1 [(0, (4, (.tmp 54)))])), 3, []⟩,
⟨(some 56), none, (.h (.call (.c (.fn 53 [] [])) [(.c (.str [105, 110, 100, 101, 120])), (.tmp 52), (.tmp 55)])), 4, []⟩,
⟨none, none, (.h (.store 4 (.tmp 2) (.tmp 56))), 5, []⟩])
.ret)
.skip))
(.seq
(.ops [⟨(some 57), none, (.r (.load 3 true (.tmp 3))), 0, []⟩,
⟨(some 58), none, (.h (.call (.c (.fn 53 [] [])) [(.c (.str [118, 97, 114])), (.tmp 57), (.c .nilsl)])), 0, []⟩,
⟨none, none, (.h (.store 4 (.tmp 2) (.tmp 58))), 0, []⟩])
.ret)))
(.seq
(.ops [⟨(some 60), none, (.p (.fieldAt 0 (.tmp 3))), 0, []⟩,
⟨(some 61), none, (.r (.load 1 false (.tmp 60))), 0, []⟩,
⟨(some 62), none, (.p (.bin .eql (.tmp 61) (.c (.int .i64 6)))), 0, []⟩,
⟨(some 59), none, (.p (.mv (.tmp 62))), 0, []⟩])
(.cond (.tmp 59)
(.seq
(.ops [⟨(some 63), none, (.p (.mv (.tmp 0))), 0, []⟩,
⟨(some 64), none, (.h (.call (.c (.fn 31 [] [])) [(.tmp 63)])), 0, []⟩])
(.seq
(.ops [⟨(some 65), none, (.p (.mv (.tmp 0))), 0, []⟩,
⟨(some 66), none, (.h (.call (.c (.fn 55 [] [])) [(.tmp 65), (.c (.str [40]))])), 0, []⟩])
(.seq
(.draw [⟨(some 67), none, (.r (.load 3 true (.tmp 3))), 0, []⟩,
⟨(some 68), none, (.p (.mv (.tmp 0))), 1, []⟩,
⟨(some 69), none, (.h (.call (.c (.fn 137 [] [])) [(.tmp 68), (.c (.str [41]))])), 2, [0]⟩,
⟨(some 70), none, (.h (.call (.c (.fn 53 [] [])) [(.c (.str [99, 97, 108, 108])), (.tmp 67), (.tmp 69)])), 3, []⟩,
⟨none, none, (.h (.store 4 (.tmp 2) (.tmp 70))), 4, []⟩])
.ret)))
(.seq
(.ops [⟨(some 72), none, (.p (.fieldAt 0 (.tmp 3))), 0, []⟩,
⟨(some 73), none, (.r (.load 1 false (.tmp 72))), 0, []⟩,
⟨(some 74), none, (.p (.bin .eql (.tmp 73) (.c (.int .i64 9)))), 0, []⟩,
⟨(some 71), none, (.p (.mv (.tmp 74))), 0, []⟩])
(.cond (.tmp 71)
(.seq
(.ops [⟨(some 75), none, (.p (.mv (.tmp 0))), 0, []⟩,
⟨(some 76), none, (.h (.call (.c (.fn 151 [] [])) [(.tmp 75)])), 0, []⟩,
⟨none, none, (.h (.store 4 (.tmp 2) (.tmp 76))), 0, []⟩])
.ret)
(.seq
(.ops [⟨(some 78), none, (.p (.mv (.tmp 0))), 0, []⟩,
⟨(some 79), none, (.h (.call (.c (.fn 51 [] [])) [(.tmp 78), (.c (.str [40]))])), 0, []⟩,
⟨(some 77), none, (.p (.mv (.tmp 79))), 0, []⟩])
(.cond (.tmp 77)
(.seq
(.ops [⟨(some 80), none, (.p (.mv (.tmp 0))), 0, []⟩,
⟨(some 81), none, (.h (.call (.c (.fn 116 [] [])) [(.tmp 80), (.c (.str [41]))])), 0, []⟩,
⟨none, none, (.h (.store 4 (.tmp 2) (.tmp 81))), 0, []⟩])
.ret)
(.seq
(.ops [⟨(some 83), none, (.p (.mv (.tmp 0))), 0, []⟩,
⟨(some 84), none, (.h (.call (.c (.fn 51 [] [])) [(.tmp 83), (.c (.str [36]))])), 0, []⟩,
⟨(some 82), none, (.p (.mv (.tmp 84))), 0, []⟩])
(.cond (.tmp 82)
(.seq
(.ops [⟨(some 85), none, (.p (.mv (.tmp 0))), 0, []⟩,
⟨(some 86), none, (.h (.call (.c (.fn 92 [] [])) [(.tmp 85)])), 0, []⟩])
(.seq
(.ops [⟨(some 87), none, (.p (.mv (.tmp 0))), 0, []⟩,
⟨none, none, (.h (.dfr (.c (.fn 93 [] [])) [(.tmp 87)])), 0, []⟩])
(.seq
(.seq
(.ops [⟨(some 88), none, (.p (.mv (.tmp 0))), 0, []⟩,
⟨(some 89), none, (.a (.mkSl [(.str [])] 1 2 [(0, (1, (.c (.str [43, 43])))), (1, (1, (.c (.str [45, 45]))))])), 0, []⟩,
⟨(some 90), none, (.h (.call (.c (.fn 29 [] [])) [(.tmp 88), (.tmp 89)])), 0, []⟩])
(.cond (.tmp 90)
(.seq
(.ops [⟨(some 91), none, (.p (.mv (.tmp 0))), 0, []⟩,
⟨(some 92), none, (.h (.call (.c (.fn 148 [] [])) [(.tmp 91)])), 0, []⟩,
⟨(some 93), none, (.a (.mkSl [(.str []), (.str []), (.int .i64 0), .nilsl] 4 1 [(0, (4, (.tmp 92)))])), 0, []⟩,
⟨(some 94), none, (.h (.call (.c (.fn 28 [] [])) [(.c (.str [102, 105, 101, 108, 100])), (.tmp 93)])), 0, []⟩,
⟨none, none, (.h (.store 4 (.tmp 2) (.tmp 94))), 0, []⟩])
.ret)
.skip))
(.seq
(.ops [⟨(some 95), none, (.p (.mv (.tmp 0))), 0, []⟩,
⟨(some 96), none, (.h (.call (.c (.fn 149 [] [])) [(.tmp 95)])), 0, []⟩,
⟨(some 97), none, (.a (.mkSl [(.str []), (.str []), (.int .i64 0), .nilsl] 4 1 [(0, (4, (.tmp 96)))])), 0, []⟩,
⟨(some 98), none, (.h (.call (.c (.fn 28 [] [])) [(.c (.str [102, 105, 101, 108, 100])), (.tmp 97)])), 0, []⟩,
⟨none, none, (.h (.store 4 (.tmp 2) (.tmp 98))), 0, []⟩])
.ret))))
.skip)))))))))))))))))
(.seq
(.ops [⟨(some 99), none, (.p (.mv (.tmp 0))), 0, []⟩,
⟨(some 100), none, (.h (.call (.c (.fn 58 [] [])) [(.tmp 99)])), 0, []⟩])
(.seq
(.ops [⟨(some 101), none, (.p (.build [(.str []), (.str []), (.int .i64 0), .nilsl] [])), 0, []⟩,
⟨none, none, (.h (.store 4 (.tmp 2) (.tmp 101))), 0, []⟩])
.ret)))))⟩
theorem c149 : Mir.compF Tryz.prog Tryz.f149 = some g149 := by kernel_rfl
/-- (*scribe/parse.parser).builtin -/
def g151 : Mir.Fn := ⟨136, [(.cell 2 4 true)],
(.seq
(.ops [⟨(some 1), none, (.a (.box (.tmp 0))), 0, []⟩,
⟨(some 2), none, (.a (.alloc [(.str []), (.str []), (.int .i64 0), .nilsl])), 0, []⟩])
(.seq
(.ops [⟨(some 7), none, (.r (.load 1 false (.tmp 1))), 0, []⟩,
⟨(some 8), none, (.h (.call (.c (.fn 30 [] [])) [(.tmp 7)])), 0, []⟩,
⟨(some 3), none, (.a (.alloc [(.int .i64 0), (.str []), (.int .i64 0)])), 0, []⟩,
⟨none, none, (.h (.store 3 (.tmp 3) (.tmp 8))), 0, []⟩])
(.seq
(.ops [⟨(some 9), none, (.r (.load 1 false (.tmp 1))), 0, []⟩,
⟨(some 10), none, (.h (.call (.c (.fn 31 [] [])) [(.tmp 9)])), 0, []⟩])
(.seq
(.seq
(.ops [⟨(some 11), none, (.p (.fieldAt 1 (.tmp 3))), 0, []⟩,
⟨(some 12), none, (.r (.load 1 false (.tmp 11))), 0, []⟩,
⟨(some 13), none, (.p (.bin .eql (.tmp 12) (.c (.str [108, 101, 110, 103, 116, 104])))), 0, []⟩,
⟨(some 14), none, (.p (.mv (.tmp 13))), 0, []⟩,
⟨(some 15), (some (14, true)), (.r (.load 1 false (.tmp 1))), 0, []⟩,
⟨(some 16), (some (14, true)), (.a (.mkSl [(.str [])] 1 1 [(0, (1, (.c (.str [40]))))])), 0, []⟩,
⟨(some 17), (some (14, true)), (.h (.call (.c (.fn 29 [] [])) [(.tmp 15), (.tmp 16)])), 0, []⟩,
⟨(some 18), (some (14, true)), (.p (.un .not (.tmp 17))), 0, []⟩,
⟨(some 19), none, (.p (.pick (.tmp 14) (.tmp 18) (.c (.bool false)))), 0, []⟩])
(.cond (.tmp 19)
(.seq
(.ops [⟨(some 20), none, (.r (.load 3 true (.tmp 3))), 0, []⟩,
⟨(some 21), none, (.h (.call (.c (.fn 53 [] [])) [(.c (.str [98, 117, 105, 108, 116, 105, 110])), (.tmp 20), (.c .nilsl)])), 0, []⟩,
⟨none, none, (.h (.store 4 (.tmp 2) (.tmp 21))), 0, []⟩])
.ret)
.skip))
(.seq
(.ops [⟨(some 22), none, (.r (.load 1 false (.tmp 1))), 0, []⟩,
⟨(some 23), none, (.h (.call (.c (.fn 55 [] [])) [(.tmp 22), (.c (.str [40]))])), 0, []⟩])
(.seq
(.ops [⟨(some 24), none, (.r (.load 1 false (.tmp 1))), 0, []⟩,
⟨(some 25), none, (.h (.call (.c (.fn 137 [] [])) [(.tmp 24), (.c (.str [41]))])), 0, []⟩,
⟨(some 4), none, (.p (.mv (.tmp 25))), 0, []⟩])
(.seq
(.ops [⟨(some 26), none, (.p (.mkFn 153 [] [(.tmp 1), (.tmp 3)])), 0, []⟩,
⟨(some 5), none, (.p (.mv (.tmp 26))), 0, []⟩])
(.seq
(.ops [⟨(some 27), none, (.p (.mv (.tmp 4))), 0, []⟩,
⟨(some 28), none, (.p (.lenSl (.tmp 27))), 0, []⟩,
⟨(some 6), none, (.p (.mv (.tmp 28))), 0, []⟩])
(.seq
(.seq
(.ops [⟨(some 29), none, (.p (.fieldAt 1 (.tmp 3))), 0, []⟩,
⟨(some 30), none, (.r (.load 1 false (.tmp 29))), 0, []⟩])
(.block 0 (.seq
(.block 9 (.seq
(.block 8 (.seq
(.block 7 (.seq
(.block 6 (.seq
(.block 5 (.seq
(.block 4 (.seq
(.block 3 (.seq
(.block 2 (.seq
(.block 1 (.seq
(.seq
(.seq
(.ops [⟨(some 32), none, (.p (.bin .eql (.tmp 30) (.c (.str [108, 101, 110, 103, 116, 104])))), 0, []⟩,
⟨(some 31), none, (.p (.mv (.tmp 32))), 0, []⟩])
(.cond (.tmp 31)
(.exit 1)
.skip))
(.seq
(.seq
(.ops [⟨(some 34), none, (.p (.bin .eql (.tmp 30) (.c (.str [115, 117, 98, 115, 116, 114])))), 0, []⟩,
⟨(some 33), none, (.p (.mv (.tmp 34))), 0, []⟩])
(.cond (.tmp 33)
(.exit 2)
.skip))
(.seq
(.seq
(.ops [⟨(some 36), none, (.p (.bin .eql (.tmp 30) (.c (.str [115, 112, 108, 105, 116])))), 0, []⟩,
⟨(some 35), none, (.p (.mv (.tmp 36))), 0, []⟩])
(.cond (.tmp 35)
(.exit 3)
.skip))
(.seq
(.seq
(.seq
(.ops [⟨(some 38), none, (.p (.bin .eql (.tmp 30) (.c (.str [115, 117, 98])))), 0, []⟩,
⟨(some 37), none, (.p (.mv (.tmp 38))), 0, []⟩])
(.cond (.tmp 37)
.skip
(.ops [⟨(some 39), none, (.p (.bin .eql (.tmp 30) (.c (.str [103, 115, 117, 98])))), 0, []⟩,
⟨(some 37), none, (.p (.mv (.tmp 39))), 0, []⟩])))
(.cond (.tmp 37)
(.exit 4)
.skip))
(.seq
(.seq
(.seq
(.ops [⟨(some 41), none, (.p (.bin .eql (.tmp 30) (.c (.str [105, 110, 100, 101, 120])))), 0, []⟩,
⟨(some 40), none, (.p (.mv (.tmp 41))), 0, []⟩])
(.cond (.tmp 40)
.skip
(.ops [⟨(some 42), none, (.p (.bin .eql (.tmp 30) (.c (.str [109, 97, 116, 99, 104])))), 0, []⟩,
⟨(some 40), none, (.p (.mv (.tmp 42))), 0, []⟩])))
(.cond (.tmp 40)
(.exit 5)
.skip))
(.seq
(.seq
(.ops [⟨(some 44), none, (.p (.bin .eql (.tmp 30) (.c (.str [115, 112, 114, 105, 110, 116, 102])))), 0, []⟩,
⟨(some 43), none, (.p (.mv (.tmp 44))), 0, []⟩])
(.cond (.tmp 43)
(.exit 6)
.skip))
(.seq
(.seq
(.ops [⟨(some 46), none, (.p (.bin .eql (.tmp 30) (.c (.str [114, 97, 110, 100])))), 0, []⟩,
⟨(some 45), none, (.p (.mv (.tmp 46))), 0, []⟩])
(.cond (.tmp 45)
(.exit 7)
.skip))
(.seq
(.ops [⟨(some 48), none, (.p (.bin .eql (.tmp 30) (.c (.str [115, 114, 97, 110, 100])))), 0, []⟩,
⟨(some 47), none, (.p (.mv (.tmp 48))), 0, []⟩])
(.cond (.tmp 47)
(.exit 8)
.skip)))))))))
(.exit 9)))
(.seq
(.ops [⟨(some 49), none, (.p (.mv (.tmp 5))), 0, []⟩,
⟨(some 50), none, (.p (.mv (.tmp 6))), 0, []⟩,
⟨(some 51), none, (.p (.bin .gtr (.tmp 50) (.c (.int .i64 1)))), 0, []⟩,
⟨(some 52), none, (.h (.call (.tmp 49) [(.tmp 51), (.c (.int .i64 9))])), 0, []⟩])
(.exit 0))))
(.seq
(.ops [⟨(some 53), none, (.p (.mv (.tmp 5))), 0, []⟩,
⟨(some 54), none, (.p (.mv (.tmp 6))), 0, []⟩,
⟨(some 55), none, (.p (.bin .lss (.tmp 54) (.c (.int .i64 2)))), 0, []⟩,
⟨(some 56), none, (.p (.mv (.tmp 55))), 0, []⟩,
⟨(some 57), (some (56, false)), (.p (.mv (.tmp 6))), 0, []⟩,
⟨(some 58), (some (56, false)), (.p (.bin .gtr (.tmp 57) (.c (.int .i64 3)))), 0, []⟩,
⟨(some 59), none, (.p (.pick (.tmp 56) (.c (.bool true)) (.tmp 58))), 0, []⟩,
⟨(some 60), none, (.h (.call (.tmp 53) [(.tmp 59), (.c (.int .i64 9))])), 0, []⟩])
(.exit 0))))
(.seq
(.seq
(.ops [⟨(some 61), none, (.p (.mv (.tmp 5))), 0, []⟩,
⟨(some 62), none, (.p (.mv (.tmp 6))), 0, []⟩,
⟨(some 63), none, (.p (.bin .lss (.tmp 62) (.c (.int .i64 2)))), 0, []⟩,
⟨(some 64), none, (.p (.mv (.tmp 63))), 0, []⟩,
⟨(some 65), (some (64, false)), (.p (.mv (.tmp 6))), 0, []⟩,
⟨(some 66), (some (64, false)), (.p (.bin .gtr (.tmp 65) (.c (.int .i64 3)))), 0, []⟩,
⟨(some 67), none, (.p (.pick (.tmp 64) (.c (.bool true)) (.tmp 66))), 0, []⟩,
⟨(some 68), none, (.p (.mv (.tmp 67))), 0, []⟩,
⟨(some 69), (some (68, false)), (.p (.mv (.tmp 4))), 0, []⟩,
⟨(some 70), (some (68, false)), (.p (.idxSl 4 (.tmp 69) (.c (.int .i64 1)))), 0, []⟩,
⟨(some 71), (some (68, false)), (.p (.fieldAt 0 (.tmp 70))), 0, []⟩,
⟨(some 72), (some (68, false)), (.r (.load 1 false (.tmp 71))), 0, []⟩,
⟨(some 73), (some (68, false)), (.p (.bin .neq (.tmp 72) (.c (.str [118, 97, 114])))), 0, []⟩,
⟨(some 74), none, (.p (.pick (.tmp 68) (.c (.bool true)) (.tmp 73))), 0, []⟩,
⟨(some 75), none, (.h (.call (.tmp 61) [(.tmp 74), (.c (.int .i64 9))])), 0, []⟩])
(.seq
(.ops [⟨(some 76), none, (.r (.load 1 false (.tmp 1))), 0, []⟩,
⟨(some 77), none, (.p (.nilchk (.tmp 76))), 0, []⟩,
⟨(some 78), none, (.p (.fieldAt 4 (.tmp 77))), 0, []⟩,
⟨(some 79), none, (.r (.load 1 false (.tmp 78))), 0, []⟩,
⟨(some 80), none, (.p (.bin .eql (.tmp 79) (.c (.int .i64 0)))), 0, []⟩])
(.cond (.tmp 80)
(.ops [⟨(some 81), none, (.p (.mv (.tmp 4))), 0, []⟩,
⟨(some 82), none, (.p (.idxSl 4 (.tmp 81) (.c (.int .i64 1)))), 0, []⟩,
⟨(some 83), none, (.p (.fieldAt 0 (.tmp 82))), 0, []⟩,
⟨none, none, (.h (.store 1 (.tmp 83) (.c (.str [110, 97, 109, 101])))), 0, []⟩])
.skip)))
(.exit 0))))
(.seq
(.seq
(.ops [⟨(some 84), none, (.p (.mv (.tmp 5))), 0, []⟩,
⟨(some 85), none, (.p (.mv (.tmp 6))), 0, []⟩,
⟨(some 86), none, (.p (.bin .lss (.tmp 85) (.c (.int .i64 2)))), 0, []⟩,
⟨(some 87), none, (.p (.mv (.tmp 86))), 0, []⟩,
⟨(some 88), (some (87, false)), (.p (.mv (.tmp 6))), 0, []⟩,
⟨(some 89), (some (87, false)), (.p (.bin .gtr (.tmp 88) (.c (.int .i64 3)))), 0, []⟩,
⟨(some 90), none, (.p (.pick (.tmp 87) (.c (.bool true)) (.tmp 89))), 0, []⟩,
⟨(some 91), none, (.p (.mv (.tmp 90))), 0, []⟩,
⟨(some 92), (some (91, false)), (.p (.mv (.tmp 6))), 0, []⟩,
⟨(some 93), (some (91, false)), (.p (.bin .eql (.tmp 92) (.c (.int .i64 3)))), 0, []⟩,
⟨(some 94), (some (91, false)), (.p (.mv (.tmp 93))), 0, []⟩,
⟨(some 95), (some (94, true)), (.p (.mv (.tmp 4))), 0, []⟩,
⟨(some 96), (some (94, true)), (.p (.idxSl 4 (.tmp 95) (.c (.int .i64 2)))), 0, []⟩,
⟨(some 97), (some (94, true)), (.r (.load 4 true (.tmp 96))), 0, []⟩,
⟨(some 98), (some (94, true)), (.h (.call (.c (.fn 95 [] [])) [(.tmp 97)])), 0, []⟩,
⟨(some 99), (some (94, true)), (.p (.un .not (.tmp 98))), 0, []⟩,
⟨(some 100), (some (91, false)), (.p (.pick (.tmp 94) (.tmp 99) (.c (.bool false)))), 0, []⟩,
⟨(some 101), none, (.p (.pick (.tmp 91) (.c (.bool true)) (.tmp 100))), 0, []⟩,
⟨(some 102), none, (.h (.call (.tmp 84) [(.tmp 101), (.c (.int .i64 9))])), 0, []⟩])
(.seq
(.ops [⟨(some 103), none, (.p (.mv (.tmp 6))), 0, []⟩,
⟨(some 104), none, (.p (.bin .eql (.tmp 103) (.c (.int .i64 2)))), 0, []⟩])
(.cond (.tmp 104)
(.ops [⟨(some 105), none, (.p (.mv (.tmp 4))), 0, []⟩,
⟨(some 106), none, (.p (.fieldAt 2 (.tmp 3))), 0, []⟩,
⟨(some 107), none, (.r (.load 1 false (.tmp 106))), 0, []⟩,
⟨(some 108), none, (.p (.build [(.str []), (.str []), (.int .i64 0), .nilsl] [(0, (1, (.c (.str [110, 117, 109])))), (1, (1, (.c (.str [48])))), (2, (1, (.tmp 107)))])), 0, []⟩,
⟨(some 109), none, (.a (.mkSl [(.str []), (.str []), (.int .i64 0), .nilsl] 4 1 [(0, (4, (.tmp 108)))])), 0, []⟩,
⟨(some 110), none, (.h (.call (.c (.fn 28 [] [])) [(.c (.str [102, 105, 101, 108, 100])), (.tmp 109)])), 0, []⟩,
⟨(some 111), none, (.a (.mkSl [(.str []), (.str []), (.int .i64 0), .nilsl] 4 1 [(0, (4, (.tmp 110)))])), 0, []⟩,
⟨(some 112), none, (.h (.app 4 64 (.tmp 105) (.tmp 111))), 0, []⟩,
⟨(some 4), none, (.p (.mv (.tmp 112))), 0, []⟩])
.skip)))
(.exit 0))))
(.seq
(.ops [⟨(some 113), none, (.p (.mv (.tmp 5))), 0, []⟩,
⟨(some 114), none, (.p (.mv (.tmp 6))), 0, []⟩,
⟨(some 115), none, (.p (.bin .neq (.tmp 114) (.c (.int .i64 2)))), 0, []⟩,
⟨(some 116), none, (.h (.call (.tmp 113) [(.tmp 115), (.c (.int .i64 9))])), 0, []⟩])
(.exit 0))))
(.seq
(.ops [⟨(some 117), none, (.p (.mv (.tmp 5))), 0, []⟩,
⟨(some 118), none, (.p (.mv (.tmp 6))), 0, []⟩,
⟨(some 119), none, (.p (.bin .lss (.tmp 118) (.c (.int .i64 1)))), 0, []⟩,
⟨(some 120), none, (.h (.call (.tmp 117) [(.tmp 119), (.c (.int .i64 9))])), 0, []⟩])
(.exit 0))))
(.seq
(.ops [⟨(some 121), none, (.p (.mv (.tmp 5))), 0, []⟩,
⟨(some 122), none, (.p (.mv (.tmp 6))), 0, []⟩,
⟨(some 123), none, (.p (.bin .neq (.tmp 122) (.c (.int .i64 0)))), 0, []⟩,
⟨(some 124), none, (.h (.call (.tmp 121) [(.tmp 123), (.c (.int .i64 9))])), 0, []⟩])
(.exit 0))))
(.ops [⟨(some 125), none, (.p (.mv (.tmp 5))), 0, []⟩,
⟨(some 126), none, (.p (.mv (.tmp 6))), 0, []⟩,
⟨(some 127), none, (.p (.bin .eql (.tmp 126) (.c (.int .i64 0)))), 0, []⟩,
⟨(some 128), none, (.h (.call (.tmp 125) [(.tmp 127), (.c (.int .i64 10))])), 0, []⟩])))
(.seq
(.ops [⟨(some 129), none, (.p (.mv (.tmp 5))), 0, []⟩,
⟨(some 130), none, (.p (.mv (.tmp 6))), 0, []⟩,
⟨(some 131), none, (.p (.bin .neq (.tmp 130) (.c (.int .i64 1)))), 0, []⟩,
⟨(some 132), none, (.h (.call (.tmp 129) [(.tmp 131), (.c (.int .i64 9))])), 0, []⟩])
(.exit 0)))))
(.seq
(.ops [⟨(some 133), none, (.r (.load 3 true (.tmp 3))), 0, []⟩,
⟨(some 134), none, (.p (.mv (.tmp 4))), 0, []⟩,
⟨(some 135), none, (.h (.call (.c (.fn 53 [] [])) [(.c (.str [98, 117, 105, 108, 116, 105, 110])), (.tmp 133), (.tmp 134)])), 0, []⟩,
⟨none, none, (.h (.store 4 (.tmp 2) (.tmp 135))), 0, []⟩])
.ret))))))))))⟩
theorem c151 : Mir.compF Tryz.prog Tryz.f151 = some g151 := by kernel_rfl
/-- (*scribe/parse.parser).builtin$1 -/
def g153 : Mir.Fn := ⟨23, [],
(.seq
(.ops [⟨(some 6), none, (.p (.mv (.tmp 0))), 0, []⟩,
⟨(some 7), none, (.p (.mv (.tmp 6))), 0, []⟩,
⟨(some 8), (some (7, true)), (.r (.load 1 false (.tmp 2))), 0, []⟩,
⟨(some 9), (some (7, true)), (.p (.nilchk (.tmp 8))), 0, []⟩,
⟨(some 10), (some (7, true)), (.p (.fieldAt 4 (.tmp 9))), 0, []⟩,
⟨(some 11), (some (7, true)), (.r (.load 1 false (.tmp 10))), 0, []⟩,
⟨(some 12), (some (7, true)), (.p (.bin .eql (.tmp 11) (.c (.int .i64 0)))), 0, []⟩,
⟨(some 13), none, (.p (.pick (.tmp 7) (.tmp 12) (.c (.bool false)))), 0, []⟩])
(.cond (.tmp 13)
(.draw [⟨(some 14), none, (.r (.load 1 false (.tmp 2))), 0, []⟩,
⟨(some 15), none, (.r (.load 1 false (.tmp 2))), 1, []⟩,
⟨(some 16), none, (.p (.mv (.tmp 1))), 2, []⟩,
⟨(some 17), none, (.p (.fieldAt 2 (.tmp 3))), 3, []⟩,
⟨(some 18), none, (.r (.load 1 false (.tmp 17))), 4, []⟩,
⟨(some 19), none, (.p (.nilchk (.tmp 14))), 5, []⟩,
⟨(some 20), none, (.p (.fieldAt 4 (.tmp 19))), 6, []⟩,
⟨none, none, (.h (.store 1 (.tmp 20) (.tmp 16))), 7, [1, 4]⟩,
⟨(some 21), none, (.p (.nilchk (.tmp 15))), 8, []⟩,
⟨(some 22), none, (.p (.fieldAt 5 (.tmp 21))), 9, []⟩,
⟨none, none, (.h (.store 1 (.tmp 22) (.tmp 18))), 10, []⟩])
.skip))⟩
theorem c153 : Mir.compF Tryz.prog Tryz.f153 = some g153 := by kernel_rfl
end Go.Proofs.YtipnnfmgecbefaaGreatDoor
