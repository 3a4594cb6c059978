/- The mirror's code of the seat's functions; printed by KPrint. -/
import Derived.Test.YtkfbldogmgofoaaGreatDoorMir21
import Derived.Test.YtkfbldogmgofoaaGreatDoorRows
namespace Go.Proofs.YtkfbldogmgofoaaGreatDoor
/-- scribe/scribelaw14.ResolveTold -/
def g3 : Mir.Fn := ⟨114, [(.cell 2 1 false)],
(.seq
(.ops [⟨(some 2), none, (.a (.alloc [(.bool false)])), 0, []⟩])
(.seq
(.ops [⟨(some 13), none, (.p (.mv (.tmp 0))), 0, []⟩,
⟨(some 14), none, (.h (.call (.c (.fn 13 [] [])) [(.tmp 13), (.c (.int .i64 400))])), 0, []⟩,
⟨(some 0), none, (.p (.mv (.tmp 14))), 0, []⟩])
(.seq
(.ops [⟨(some 16), none, (.p (.mv (.tmp 0))), 0, []⟩,
⟨(some 17), none, (.h (.call (.c (.fn 14 [] [])) [(.tmp 16)])), 0, []⟩,
⟨(some 15), none, (.p (.mv (.tmp 17))), 0, []⟩,
⟨(some 18), none, (.p (.ext (.tmp 15) 0)), 0, []⟩,
⟨(some 19), none, (.p (.ext (.tmp 15) 1)), 0, []⟩,
⟨(some 20), none, (.p (.ext (.tmp 15) 2)), 0, []⟩,
⟨(some 3), none, (.a (.alloc [(.str []), (.str []), (.int .i64 0), .nilsl])), 0, []⟩,
⟨none, none, (.h (.store 4 (.tmp 3) (.tmp 18))), 0, []⟩,
⟨(some 4), none, (.p (.mv (.tmp 19))), 0, []⟩,
⟨(some 5), none, (.p (.mv (.tmp 20))), 0, []⟩])
(.seq
(.seq
(.ops [⟨(some 21), none, (.p (.mv (.tmp 5))), 0, []⟩,
⟨(some 22), none, (.p (.bin .neq (.tmp 21) (.c (.int .i64 0)))), 0, []⟩])
(.cond (.tmp 22)
(.seq
(.ops [⟨(some 23), none, (.h (.call (.c (.fn 15 [] [])) [])), 0, []⟩,
⟨none, none, (.h (.store 1 (.tmp 2) (.tmp 23))), 0, []⟩])
.ret)
.skip))
(.seq
(.ops [⟨(some 25), none, (.r (.load 4 true (.tmp 3))), 0, []⟩,
⟨(some 26), none, (.h (.call (.c (.fn 16 [] [])) [(.tmp 25)])), 0, []⟩,
⟨(some 24), none, (.p (.mv (.tmp 26))), 0, []⟩,
⟨(some 27), none, (.p (.ext (.tmp 24) 0)), 0, []⟩,
⟨(some 28), none, (.p (.ext (.tmp 24) 1)), 0, []⟩,
⟨(some 29), none, (.p (.ext (.tmp 24) 2)), 0, []⟩,
⟨(some 6), none, (.a (.alloc [.nilptr])), 0, []⟩,
⟨(some 7), none, (.a (.alloc [(.int .i64 0)])), 0, []⟩,
⟨(some 8), none, (.a (.alloc [(.int .i64 0)])), 0, []⟩,
⟨none, none, (.h (.store 1 (.tmp 6) (.tmp 27))), 0, []⟩,
⟨none, none, (.h (.store 1 (.tmp 7) (.tmp 28))), 0, []⟩,
⟨none, none, (.h (.store 1 (.tmp 8) (.tmp 29))), 0, []⟩])
(.seq
(.seq
(.ops [⟨(some 30), none, (.r (.load 1 false (.tmp 8))), 0, []⟩,
⟨(some 31), none, (.p (.bin .neq (.tmp 30) (.c (.int .i64 0)))), 0, []⟩])
(.cond (.tmp 31)
(.seq
(.seq
(.ops [⟨(some 32), none, (.r (.load 4 true (.tmp 3))), 0, []⟩,
⟨(some 33), none, (.h (.call (.c (.fn 17 [] [])) [(.tmp 32)])), 0, []⟩])
(.block 0 (.rangeFn (.tmp 33) [34, 35] (.ops [⟨(some 10), none, (.a (.alloc [(.str []), (.str []), (.int .i64 0), .nilsl])), 0, []⟩,
⟨none, none, (.h (.store 4 (.tmp 10) (.tmp 35))), 0, []⟩]) (.block 1 (.seq
(.ops [⟨(some 36), none, (.p (.fieldAt 2 (.tmp 10))), 0, []⟩,
⟨(some 37), none, (.r (.load 1 false (.tmp 36))), 0, []⟩,
⟨(some 38), none, (.r (.load 1 false (.tmp 7))), 0, []⟩,
⟨(some 39), none, (.p (.bin .eql (.tmp 37) (.tmp 38))), 0, []⟩,
⟨(some 40), none, (.p (.mv (.tmp 39))), 0, []⟩,
⟨(some 41), (some (40, true)), (.r (.load 1 false (.tmp 8))), 0, []⟩,
⟨(some 42), (some (40, true)), (.p (.bin .eql (.tmp 41) (.c (.int .i64 11)))), 0, []⟩,
⟨(some 43), (some (40, true)), (.p (.mv (.tmp 42))), 0, []⟩,
⟨(some 44), (some (43, true)), (.p (.fieldAt 1 (.tmp 10))), 0, []⟩,
⟨(some 45), (some (43, true)), (.r (.load 1 false (.tmp 44))), 0, []⟩,
⟨(some 46), (some (43, true)), (.p (.bin .neq (.tmp 45) (.c (.str [])))), 0, []⟩,
⟨(some 47), (some (40, true)), (.p (.pick (.tmp 43) (.tmp 46) (.c (.bool false)))), 0, []⟩,
⟨(some 48), (some (40, true)), (.p (.mv (.tmp 47))), 0, []⟩,
⟨(some 49), (some (48, false)), (.r (.load 1 false (.tmp 8))), 0, []⟩,
⟨(some 50), (some (48, false)), (.p (.bin .eql (.tmp 49) (.c (.int .i64 9)))), 0, []⟩,
⟨(some 51), (some (48, false)), (.p (.mv (.tmp 50))), 0, []⟩,
⟨(some 52), (some (51, true)), (.p (.fieldAt 1 (.tmp 10))), 0, []⟩,
⟨(some 53), (some (51, true)), (.r (.load 1 false (.tmp 52))), 0, []⟩,
⟨(some 54), (some (51, true)), (.p (.bin .eql (.tmp 53) (.c (.str [])))), 0, []⟩,
⟨(some 55), (some (48, false)), (.p (.pick (.tmp 51) (.tmp 54) (.c (.bool false)))), 0, []⟩,
⟨(some 56), (some (40, true)), (.p (.pick (.tmp 48) (.c (.bool true)) (.tmp 55))), 0, []⟩,
⟨(some 57), none, (.p (.pick (.tmp 40) (.tmp 56) (.c (.bool false)))), 0, []⟩])
(.cond (.tmp 57)
(.seq
(.ops [⟨(some 58), none, (.h (.call (.c (.fn 15 [] [])) [])), 0, []⟩,
⟨(some 59), none, (.p (.mv (.tmp 58))), 0, []⟩,
⟨(some 60), (some (59, true)), (.r (.load 1 false (.tmp 6))), 0, []⟩,
⟨(some 61), (some (59, true)), (.p (.eq .ptr false (.tmp 60) (.c .nilptr))), 0, []⟩,
⟨(some 62), none, (.p (.pick (.tmp 59) (.tmp 61) (.c (.bool false)))), 0, []⟩,
⟨none, none, (.h (.store 1 (.tmp 2) (.tmp 62))), 0, []⟩])
.ret)
.skip))))))
(.seq
(.ops [⟨none, none, (.h (.store 1 (.tmp 2) (.c (.bool false)))), 0, []⟩])
.ret))
.skip))
(.seq
(.seq
(.draw [⟨(some 63), none, (.r (.load 1 false (.tmp 6))), 0, []⟩,
⟨(some 64), none, (.p (.eq .ptr false (.tmp 63) (.c .nilptr))), 1, []⟩,
⟨(some 65), none, (.p (.mv (.tmp 64))), 2, []⟩,
⟨(some 66), (some (65, false)), (.r (.load 1 false (.tmp 6))), 3, []⟩,
⟨(some 67), (some (65, false)), (.p (.nilchk (.tmp 66))), 4, []⟩,
⟨(some 68), (some (65, false)), (.p (.fieldAt 1 (.tmp 67))), 5, []⟩,
⟨(some 69), (some (65, false)), (.r (.load 1 false (.tmp 68))), 6, []⟩,
⟨(some 70), (some (65, false)), (.p (.lenSl (.tmp 69))), 7, []⟩,
⟨(some 71), (some (65, false)), (.r (.load 1 false (.tmp 6))), 8, []⟩,
⟨(some 72), (some (65, false)), (.p (.nilchk (.tmp 71))), 9, []⟩,
⟨(some 73), (some (65, false)), (.p (.fieldAt 2 (.tmp 72))), 10, []⟩,
⟨(some 74), (some (65, false)), (.r (.load 1 false (.tmp 73))), 11, []⟩,
⟨(some 75), (some (65, false)), (.p (.lenSl (.tmp 74))), 12, []⟩,
⟨(some 76), (some (65, false)), (.p (.bin .neq (.tmp 70) (.tmp 75))), 13, []⟩,
⟨(some 77), none, (.p (.pick (.tmp 65) (.c (.bool true)) (.tmp 76))), 14, []⟩])
(.cond (.tmp 77)
(.seq
(.ops [⟨none, none, (.h (.store 1 (.tmp 2) (.c (.bool false)))), 0, []⟩])
.ret)
.skip))
(.seq
(.seq
(.ops [⟨(some 78), none, (.r (.load 1 false (.tmp 6))), 0, []⟩,
⟨(some 79), none, (.p (.nilchk (.tmp 78))), 0, []⟩,
⟨(some 80), none, (.p (.fieldAt 1 (.tmp 79))), 0, []⟩,
⟨(some 81), none, (.r (.load 1 false (.tmp 80))), 0, []⟩,
⟨(some 82), none, (.p (.lenSl (.tmp 81))), 0, []⟩,
⟨(some 83), none, (.p (.mv (.c (.int .i64 0)))), 0, []⟩])
(.block 2 (.loop (.seq
(.ops [⟨(some 84), none, (.p (.bin .lss (.tmp 83) (.tmp 82))), 0, []⟩])
(.seq
(.cond (.tmp 84)
.skip
(.exit 2))
(.seq
(.block 3 (.seq
(.ops [⟨(some 85), none, (.p (.mv (.tmp 83))), 0, []⟩,
⟨(some 11), none, (.p (.mv (.tmp 85))), 0, []⟩])
(.seq
(.ops [⟨(some 86), none, (.r (.load 1 false (.tmp 6))), 0, []⟩,
⟨(some 87), none, (.p (.nilchk (.tmp 86))), 0, []⟩,
⟨(some 88), none, (.p (.fieldAt 1 (.tmp 87))), 0, []⟩,
⟨(some 89), none, (.r (.load 1 false (.tmp 88))), 0, []⟩,
⟨(some 90), none, (.p (.mv (.tmp 11))), 0, []⟩,
⟨(some 91), none, (.p (.subSl 1 (.tmp 89) none (some (.tmp 90)))), 0, []⟩,
⟨(some 92), none, (.p (.lenSl (.tmp 91))), 0, []⟩,
⟨(some 93), none, (.p (.mv (.c (.int .i64 0)))), 0, []⟩])
(.block 4 (.loop (.seq
(.ops [⟨(some 94), none, (.p (.bin .lss (.tmp 93) (.tmp 92))), 0, []⟩])
(.seq
(.cond (.tmp 94)
.skip
(.exit 4))
(.seq
(.block 5 (.seq
(.ops [⟨(some 95), none, (.p (.mv (.tmp 93))), 0, []⟩,
⟨(some 12), none, (.p (.mv (.tmp 95))), 0, []⟩])
(.seq
(.draw [⟨(some 96), none, (.r (.load 1 false (.tmp 6))), 0, []⟩,
⟨(some 97), none, (.p (.nilchk (.tmp 96))), 1, []⟩,
⟨(some 98), none, (.p (.fieldAt 1 (.tmp 97))), 2, []⟩,
⟨(some 99), none, (.r (.load 1 false (.tmp 98))), 3, []⟩,
⟨(some 100), none, (.p (.mv (.tmp 11))), 4, []⟩,
⟨(some 101), none, (.p (.idxSl 1 (.tmp 99) (.tmp 100))), 5, []⟩,
⟨(some 102), none, (.r (.load 1 false (.tmp 101))), 6, []⟩,
⟨(some 103), none, (.r (.load 1 false (.tmp 6))), 7, []⟩,
⟨(some 104), none, (.p (.nilchk (.tmp 103))), 8, []⟩,
⟨(some 105), none, (.p (.fieldAt 1 (.tmp 104))), 9, []⟩,
⟨(some 106), none, (.r (.load 1 false (.tmp 105))), 10, []⟩,
⟨(some 107), none, (.p (.mv (.tmp 12))), 11, []⟩,
⟨(some 108), none, (.p (.idxSl 1 (.tmp 106) (.tmp 107))), 12, []⟩,
⟨(some 109), none, (.r (.load 1 false (.tmp 108))), 13, []⟩,
⟨(some 110), none, (.p (.bin .eql (.tmp 102) (.tmp 109))), 14, []⟩])
(.cond (.tmp 110)
(.seq
(.ops [⟨none, none, (.h (.store 1 (.tmp 2) (.c (.bool false)))), 0, []⟩])
.ret)
.skip))))
(.ops [⟨(some 111), none, (.p (.bin .add (.tmp 93) (.c (.int .i64 1)))), 0, []⟩,
⟨(some 93), none, (.p (.mv (.tmp 111))), 0, []⟩])))))))))
(.ops [⟨(some 112), none, (.p (.bin .add (.tmp 83) (.c (.int .i64 1)))), 0, []⟩,
⟨(some 83), none, (.p (.mv (.tmp 112))), 0, []⟩])))))))
(.seq
(.ops [⟨(some 113), none, (.h (.call (.c (.fn 15 [] [])) [])), 0, []⟩,
⟨none, none, (.h (.store 1 (.tmp 2) (.tmp 113))), 0, []⟩])
.ret)))))))))⟩
theorem c3 : Mir.compF Tryz.prog Tryz.f3 = some g3 := by kernel_rfl
/-- scribe/scribelaw14.ResolveTwice -/
def g4 : Mir.Fn := ⟨115, [(.tmp 2)],
(.seq
(.ops [⟨(some 2), none, (.p (.mv (.c (.bool false)))), 0, []⟩])
(.seq
(.ops [⟨(some 15), none, (.p (.mv (.tmp 0))), 0, []⟩,
⟨(some 16), none, (.h (.call (.c (.fn 13 [] [])) [(.tmp 15), (.c (.int .i64 300))])), 0, []⟩,
⟨(some 0), none, (.p (.mv (.tmp 16))), 0, []⟩])
(.seq
(.ops [⟨(some 18), none, (.p (.mv (.tmp 0))), 0, []⟩,
⟨(some 19), none, (.h (.call (.c (.fn 14 [] [])) [(.tmp 18)])), 0, []⟩,
⟨(some 17), none, (.p (.mv (.tmp 19))), 0, []⟩,
⟨(some 20), none, (.p (.ext (.tmp 17) 0)), 0, []⟩,
⟨(some 21), none, (.p (.ext (.tmp 17) 1)), 0, []⟩,
⟨(some 22), none, (.p (.ext (.tmp 17) 2)), 0, []⟩,
⟨(some 3), none, (.a (.alloc [(.str []), (.str []), (.int .i64 0), .nilsl])), 0, []⟩,
⟨none, none, (.h (.store 4 (.tmp 3) (.tmp 20))), 0, []⟩,
⟨(some 4), none, (.p (.mv (.tmp 21))), 0, []⟩,
⟨(some 5), none, (.p (.mv (.tmp 22))), 0, []⟩])
(.seq
(.seq
(.ops [⟨(some 23), none, (.p (.mv (.tmp 5))), 0, []⟩,
⟨(some 24), none, (.p (.bin .neq (.tmp 23) (.c (.int .i64 0)))), 0, []⟩])
(.cond (.tmp 24)
(.seq
(.ops [⟨(some 25), none, (.h (.call (.c (.fn 15 [] [])) [])), 0, []⟩,
⟨(some 2), none, (.p (.mv (.tmp 25))), 0, []⟩])
.ret)
.skip))
(.seq
(.ops [⟨(some 26), none, (.a (.mkSl [(.str []), (.str []), (.int .i64 0), .nilsl] 4 0 [])), 0, []⟩,
⟨(some 27), none, (.p (.fieldAt 3 (.tmp 3))), 0, []⟩,
⟨(some 28), none, (.r (.load 1 false (.tmp 27))), 0, []⟩,
⟨(some 29), none, (.h (.app 4 64 (.tmp 26) (.tmp 28))), 0, []⟩,
⟨(some 30), none, (.p (.build [(.str []), (.str []), (.int .i64 0), .nilsl] [(0, (1, (.c (.str [112, 114, 111, 103, 114, 97, 109])))), (3, (1, (.tmp 29)))])), 0, []⟩,
⟨(some 6), none, (.a (.alloc [(.str []), (.str []), (.int .i64 0), .nilsl])), 0, []⟩,
⟨none, none, (.h (.store 4 (.tmp 6) (.tmp 30))), 0, []⟩])
(.seq
(.seq
(.ops [⟨(some 31), none, (.p (.fieldAt 3 (.tmp 3))), 0, []⟩,
⟨(some 32), none, (.r (.load 1 false (.tmp 31))), 0, []⟩,
⟨(some 33), none, (.p (.lenSl (.tmp 32))), 0, []⟩,
⟨(some 34), none, (.p (.mv (.c (.int .i64 0)))), 0, []⟩])
(.block 0 (.loop (.seq
(.ops [⟨(some 35), none, (.p (.bin .lss (.tmp 34) (.tmp 33))), 0, []⟩])
(.seq
(.cond (.tmp 35)
.skip
(.exit 0))
(.seq
(.block 1 (.seq
(.ops [⟨(some 36), none, (.p (.idxSl 4 (.tmp 32) (.tmp 34))), 0, []⟩,
⟨(some 37), none, (.r (.load 4 true (.tmp 36))), 0, []⟩,
⟨(some 8), none, (.a (.alloc [(.str []), (.str []), (.int .i64 0), .nilsl])), 0, []⟩,
⟨none, none, (.h (.store 4 (.tmp 8) (.tmp 37))), 0, []⟩])
(.seq
(.ops [⟨(some 38), none, (.p (.fieldAt 0 (.tmp 8))), 0, []⟩,
⟨(some 39), none, (.r (.load 1 false (.tmp 38))), 0, []⟩,
⟨(some 40), none, (.p (.bin .neq (.tmp 39) (.c (.str [102, 117, 110, 99])))), 0, []⟩])
(.cond (.tmp 40)
(.ops [⟨(some 41), none, (.p (.fieldAt 3 (.tmp 6))), 0, []⟩,
⟨(some 42), none, (.r (.load 1 false (.tmp 41))), 0, []⟩,
⟨(some 43), none, (.r (.load 4 true (.tmp 8))), 0, []⟩,
⟨(some 44), none, (.a (.mkSl [(.str []), (.str []), (.int .i64 0), .nilsl] 4 1 [(0, (4, (.tmp 43)))])), 0, []⟩,
⟨(some 45), none, (.h (.app 4 64 (.tmp 42) (.tmp 44))), 0, []⟩,
⟨(some 46), none, (.p (.fieldAt 3 (.tmp 6))), 0, []⟩,
⟨none, none, (.h (.store 1 (.tmp 46) (.tmp 45))), 0, []⟩])
.skip))))
(.ops [⟨(some 47), none, (.p (.bin .add (.tmp 34) (.c (.int .i64 1)))), 0, []⟩,
⟨(some 34), none, (.p (.mv (.tmp 47))), 0, []⟩])))))))
(.seq
(.ops [⟨(some 49), none, (.r (.load 4 true (.tmp 3))), 0, []⟩,
⟨(some 50), none, (.h (.call (.c (.fn 16 [] [])) [(.tmp 49)])), 0, []⟩,
⟨(some 48), none, (.p (.mv (.tmp 50))), 0, []⟩,
⟨(some 51), none, (.p (.ext (.tmp 48) 0)), 0, []⟩,
⟨(some 52), none, (.p (.ext (.tmp 48) 1)), 0, []⟩,
⟨(some 53), none, (.p (.ext (.tmp 48) 2)), 0, []⟩,
⟨(some 9), none, (.p (.mv (.tmp 51))), 0, []⟩,
⟨(some 10), none, (.p (.mv (.tmp 52))), 0, []⟩,
⟨(some 11), none, (.p (.mv (.tmp 53))), 0, []⟩])
(.seq
(.ops [⟨(some 55), none, (.r (.load 4 true (.tmp 6))), 0, []⟩,
⟨(some 56), none, (.h (.call (.c (.fn 16 [] [])) [(.tmp 55)])), 0, []⟩,
⟨(some 54), none, (.p (.mv (.tmp 56))), 0, []⟩,
⟨(some 57), none, (.p (.ext (.tmp 54) 0)), 0, []⟩,
⟨(some 58), none, (.p (.ext (.tmp 54) 1)), 0, []⟩,
⟨(some 59), none, (.p (.ext (.tmp 54) 2)), 0, []⟩,
⟨(some 12), none, (.p (.mv (.tmp 57))), 0, []⟩,
⟨(some 13), none, (.p (.mv (.tmp 58))), 0, []⟩,
⟨(some 14), none, (.p (.mv (.tmp 59))), 0, []⟩])
(.seq
(.seq
(.ops [⟨(some 60), none, (.p (.mv (.tmp 11))), 0, []⟩,
⟨(some 61), none, (.p (.mv (.tmp 14))), 0, []⟩,
⟨(some 62), none, (.p (.bin .neq (.tmp 60) (.tmp 61))), 0, []⟩,
⟨(some 63), none, (.p (.mv (.tmp 62))), 0, []⟩,
⟨(some 64), (some (63, false)), (.p (.mv (.tmp 10))), 0, []⟩,
⟨(some 65), (some (63, false)), (.p (.mv (.tmp 13))), 0, []⟩,
⟨(some 66), (some (63, false)), (.p (.bin .neq (.tmp 64) (.tmp 65))), 0, []⟩,
⟨(some 67), none, (.p (.pick (.tmp 63) (.c (.bool true)) (.tmp 66))), 0, []⟩,
⟨(some 68), none, (.p (.mv (.tmp 67))), 0, []⟩,
⟨(some 69), (some (68, false)), (.p (.mv (.tmp 9))), 0, []⟩,
⟨(some 70), (some (68, false)), (.p (.eq .ptr false (.tmp 69) (.c .nilptr))), 0, []⟩,
⟨(some 71), (some (68, false)), (.p (.mv (.tmp 12))), 0, []⟩,
⟨(some 72), (some (68, false)), (.p (.eq .ptr false (.tmp 71) (.c .nilptr))), 0, []⟩,
⟨(some 73), (some (68, false)), (.p (.eq .bool true (.tmp 70) (.tmp 72))), 0, []⟩,
⟨(some 74), none, (.p (.pick (.tmp 68) (.c (.bool true)) (.tmp 73))), 0, []⟩])
(.cond (.tmp 74)
(.seq
(.ops [⟨(some 2), none, (.p (.mv (.c (.bool false)))), 0, []⟩])
.ret)
.skip))
(.seq
(.draw [⟨(some 75), none, (.h (.call (.c (.fn 15 [] [])) [])), 0, []⟩,
⟨(some 76), none, (.p (.mv (.tmp 75))), 1, []⟩,
⟨(some 77), (some (76, true)), (.p (.mv (.tmp 9))), 2, []⟩,
⟨(some 78), (some (76, true)), (.p (.eq .ptr false (.tmp 77) (.c .nilptr))), 3, []⟩,
⟨(some 79), (some (76, true)), (.p (.mv (.tmp 78))), 4, []⟩,
⟨(some 80), (some (79, false)), (.p (.mv (.tmp 9))), 5, []⟩,
⟨(some 81), (some (79, false)), (.p (.nilchk (.tmp 80))), 6, []⟩,
⟨(some 82), (some (79, false)), (.p (.fieldAt 1 (.tmp 81))), 7, []⟩,
⟨(some 83), (some (79, false)), (.r (.load 1 false (.tmp 82))), 8, []⟩,
⟨(some 84), (some (79, false)), (.p (.mv (.tmp 12))), 9, []⟩,
⟨(some 85), (some (79, false)), (.p (.nilchk (.tmp 84))), 10, []⟩,
⟨(some 86), (some (79, false)), (.p (.fieldAt 1 (.tmp 85))), 11, []⟩,
⟨(some 87), (some (79, false)), (.r (.load 1 false (.tmp 86))), 12, []⟩,
⟨(some 88), (some (79, false)), (.h (.call (.c (.fn 18 [] [])) [(.tmp 83), (.tmp 87)])), 13, []⟩,
⟨(some 89), (some (79, false)), (.p (.mv (.tmp 88))), 14, []⟩,
⟨(some 90), (some (89, true)), (.p (.mv (.tmp 9))), 15, []⟩,
⟨(some 91), (some (89, true)), (.p (.nilchk (.tmp 90))), 16, []⟩,
⟨(some 92), (some (89, true)), (.p (.fieldAt 2 (.tmp 91))), 17, []⟩,
⟨(some 93), (some (89, true)), (.r (.load 1 false (.tmp 92))), 18, []⟩,
⟨(some 94), (some (89, true)), (.p (.mv (.tmp 12))), 19, []⟩,
⟨(some 95), (some (89, true)), (.p (.nilchk (.tmp 94))), 20, []⟩,
⟨(some 96), (some (89, true)), (.p (.fieldAt 2 (.tmp 95))), 21, []⟩,
⟨(some 97), (some (89, true)), (.r (.load 1 false (.tmp 96))), 22, []⟩,
⟨(some 98), (some (89, true)), (.h (.call (.c (.fn 19 [] [])) [(.tmp 93), (.tmp 97)])), 23, []⟩,
⟨(some 99), (some (79, false)), (.p (.pick (.tmp 89) (.tmp 98) (.c (.bool false)))), 24, []⟩,
⟨(some 100), (some (79, false)), (.p (.mv (.tmp 99))), 25, []⟩,
⟨(some 101), (some (100, true)), (.p (.mv (.tmp 9))), 26, []⟩,
⟨(some 102), (some (100, true)), (.p (.nilchk (.tmp 101))), 27, []⟩,
⟨(some 103), (some (100, true)), (.p (.fieldAt 0 (.tmp 102))), 28, []⟩,
⟨(some 104), (some (100, true)), (.r (.load 1 false (.tmp 103))), 29, []⟩,
⟨(some 105), (some (100, true)), (.p (.lenSl (.tmp 104))), 30, []⟩,
⟨(some 106), (some (100, true)), (.p (.mv (.tmp 12))), 31, []⟩,
⟨(some 107), (some (100, true)), (.p (.nilchk (.tmp 106))), 32, []⟩,
⟨(some 108), (some (100, true)), (.p (.fieldAt 0 (.tmp 107))), 33, []⟩,
⟨(some 109), (some (100, true)), (.r (.load 1 false (.tmp 108))), 34, []⟩,
⟨(some 110), (some (100, true)), (.p (.lenSl (.tmp 109))), 35, []⟩,
⟨(some 111), (some (100, true)), (.p (.bin .eql (.tmp 105) (.tmp 110))), 36, []⟩,
⟨(some 112), (some (79, false)), (.p (.pick (.tmp 100) (.tmp 111) (.c (.bool false)))), 37, []⟩,
⟨(some 113), (some (76, true)), (.p (.pick (.tmp 79) (.c (.bool true)) (.tmp 112))), 38, []⟩,
⟨(some 114), none, (.p (.pick (.tmp 76) (.tmp 113) (.c (.bool false)))), 39, []⟩,
⟨(some 2), none, (.p (.mv (.tmp 114))), 40, []⟩])
.ret))))))))))⟩
theorem c4 : Mir.compF Tryz.prog Tryz.f4 = some g4 := by kernel_rfl
/-- scribe/scribelaw14.ResolveStray -/
def g5 : Mir.Fn := ⟨51, [(.tmp 2)],
(.seq
(.ops [⟨(some 2), none, (.p (.mv (.c (.bool false)))), 0, []⟩])
(.seq
(.ops [⟨(some 10), none, (.a (.mkSl [(.str [])] 1 6 [(0, (1, (.c (.str [66, 69, 71, 73, 78, 123, 98, 114, 101, 97, 107, 125])))), (1, (1, (.c (.str [123, 105, 102, 40, 49, 41, 99, 111, 110, 116, 105, 110, 117, 101, 125])))), (2, (1, (.c (.str [123, 114, 101, 116, 117, 114, 110, 125])))), (3, (1, (.c (.str [66, 69, 71, 73, 78, 123, 110, 101, 120, 116, 125])))), (4, (1, (.c (.str [102, 117, 110, 99, 116, 105, 111, 110, 32, 102, 40, 41, 123, 110, 101, 120, 116, 125])))), (5, (1, (.c (.str [69, 78, 68, 123, 119, 104, 105, 108, 101, 40, 49, 41, 98, 114, 101, 97, 107, 59, 98, 114, 101, 97, 107, 125]))))])), 0, []⟩,
⟨(some 3), none, (.p (.mv (.tmp 10))), 0, []⟩])
(.seq
(.seq
(.ops [⟨(some 11), none, (.p (.mv (.tmp 0))), 0, []⟩,
⟨(some 12), none, (.p (.bin .lss (.tmp 11) (.c (.int .i64 0)))), 0, []⟩,
⟨(some 13), none, (.p (.mv (.tmp 12))), 0, []⟩,
⟨(some 14), (some (13, false)), (.p (.mv (.tmp 0))), 0, []⟩,
⟨(some 15), (some (13, false)), (.p (.mv (.tmp 3))), 0, []⟩,
⟨(some 16), (some (13, false)), (.p (.lenSl (.tmp 15))), 0, []⟩,
⟨(some 17), (some (13, false)), (.p (.bin .geq (.tmp 14) (.tmp 16))), 0, []⟩,
⟨(some 18), none, (.p (.pick (.tmp 13) (.c (.bool true)) (.tmp 17))), 0, []⟩])
(.cond (.tmp 18)
(.seq
(.ops [⟨(some 19), none, (.h (.call (.c (.fn 15 [] [])) [])), 0, []⟩,
⟨(some 2), none, (.p (.mv (.tmp 19))), 0, []⟩])
.ret)
.skip))
(.seq
(.ops [⟨(some 21), none, (.p (.mv (.tmp 3))), 0, []⟩,
⟨(some 22), none, (.p (.mv (.tmp 0))), 0, []⟩,
⟨(some 23), none, (.p (.idxSl 1 (.tmp 21) (.tmp 22))), 0, []⟩,
⟨(some 24), none, (.r (.load 1 false (.tmp 23))), 0, []⟩,
⟨(some 25), none, (.h (.call (.c (.fn 20 [] [])) [(.tmp 24)])), 0, []⟩,
⟨(some 20), none, (.p (.mv (.tmp 25))), 0, []⟩,
⟨(some 26), none, (.p (.ext (.tmp 20) 0)), 0, []⟩,
⟨(some 27), none, (.p (.ext (.tmp 20) 1)), 0, []⟩,
⟨(some 28), none, (.p (.ext (.tmp 20) 2)), 0, []⟩,
⟨(some 4), none, (.p (.mv (.tmp 26))), 0, []⟩,
⟨(some 5), none, (.p (.mv (.tmp 27))), 0, []⟩,
⟨(some 6), none, (.p (.mv (.tmp 28))), 0, []⟩])
(.seq
(.ops [⟨(some 30), none, (.h (.call (.c (.fn 20 [] [])) [(.c (.str [102, 117, 110, 99, 116, 105, 111, 110, 32, 102, 40, 41, 123, 119, 104, 105, 108, 101, 40, 49, 41, 123, 98, 114, 101, 97, 107, 125, 114, 101, 116, 117, 114, 110, 32, 49, 125, 32, 123, 102, 111, 114, 40, 59, 59, 41, 99, 111, 110, 116, 105, 110, 117, 101, 59, 110, 101, 120, 116, 125]))])), 0, []⟩,
⟨(some 29), none, (.p (.mv (.tmp 30))), 0, []⟩,
⟨(some 31), none, (.p (.ext (.tmp 29) 0)), 0, []⟩,
⟨(some 32), none, (.p (.ext (.tmp 29) 1)), 0, []⟩,
⟨(some 33), none, (.p (.ext (.tmp 29) 2)), 0, []⟩,
⟨(some 7), none, (.p (.mv (.tmp 31))), 0, []⟩,
⟨(some 8), none, (.p (.mv (.tmp 32))), 0, []⟩,
⟨(some 9), none, (.p (.mv (.tmp 33))), 0, []⟩])
(.seq
(.ops [⟨(some 34), none, (.h (.call (.c (.fn 15 [] [])) [])), 0, []⟩,
⟨(some 35), none, (.p (.mv (.tmp 34))), 0, []⟩,
⟨(some 36), (some (35, true)), (.p (.mv (.tmp 6))), 0, []⟩,
⟨(some 37), (some (35, true)), (.p (.bin .eql (.tmp 36) (.c (.int .i64 9)))), 0, []⟩,
⟨(some 38), none, (.p (.pick (.tmp 35) (.tmp 37) (.c (.bool false)))), 0, []⟩,
⟨(some 39), none, (.p (.mv (.tmp 38))), 0, []⟩,
⟨(some 40), (some (39, true)), (.p (.mv (.tmp 4))), 0, []⟩,
⟨(some 41), (some (39, true)), (.p (.eq .ptr false (.tmp 40) (.c .nilptr))), 0, []⟩,
⟨(some 42), none, (.p (.pick (.tmp 39) (.tmp 41) (.c (.bool false)))), 0, []⟩,
⟨(some 43), none, (.p (.mv (.tmp 42))), 0, []⟩,
⟨(some 44), (some (43, true)), (.p (.mv (.tmp 9))), 0, []⟩,
⟨(some 45), (some (43, true)), (.p (.bin .eql (.tmp 44) (.c (.int .i64 0)))), 0, []⟩,
⟨(some 46), none, (.p (.pick (.tmp 43) (.tmp 45) (.c (.bool false)))), 0, []⟩,
⟨(some 47), none, (.p (.mv (.tmp 46))), 0, []⟩,
⟨(some 48), (some (47, true)), (.p (.mv (.tmp 7))), 0, []⟩,
⟨(some 49), (some (47, true)), (.p (.eq .ptr true (.tmp 48) (.c .nilptr))), 0, []⟩,
⟨(some 50), none, (.p (.pick (.tmp 47) (.tmp 49) (.c (.bool false)))), 0, []⟩,
⟨(some 2), none, (.p (.mv (.tmp 50))), 0, []⟩])
.ret))))))⟩
theorem c5 : Mir.compF Tryz.prog Tryz.f5 = some g5 := by kernel_rfl
/-- scribe/scribelaw13.ParseTold -/
def g6 : Mir.Fn := ⟨49, [(.tmp 2)],
(.seq
(.ops [⟨(some 2), none, (.p (.mv (.c (.bool false)))), 0, []⟩])
(.seq
(.ops [⟨(some 6), none, (.p (.mv (.tmp 0))), 0, []⟩,
⟨(some 7), none, (.h (.call (.c (.fn 13 [] [])) [(.tmp 6), (.c (.int .i64 300))])), 0, []⟩,
⟨(some 0), none, (.p (.mv (.tmp 7))), 0, []⟩])
(.seq
(.ops [⟨(some 9), none, (.p (.mv (.tmp 0))), 0, []⟩,
⟨(some 10), none, (.h (.call (.c (.fn 14 [] [])) [(.tmp 9)])), 0, []⟩,
⟨(some 8), none, (.p (.mv (.tmp 10))), 0, []⟩,
⟨(some 11), none, (.p (.ext (.tmp 8) 0)), 0, []⟩,
⟨(some 12), none, (.p (.ext (.tmp 8) 1)), 0, []⟩,
⟨(some 13), none, (.p (.ext (.tmp 8) 2)), 0, []⟩,
⟨(some 3), none, (.a (.alloc [(.str []), (.str []), (.int .i64 0), .nilsl])), 0, []⟩,
⟨none, none, (.h (.store 4 (.tmp 3) (.tmp 11))), 0, []⟩,
⟨(some 4), none, (.p (.mv (.tmp 12))), 0, []⟩,
⟨(some 5), none, (.p (.mv (.tmp 13))), 0, []⟩])
(.seq
(.seq
(.ops [⟨(some 14), none, (.p (.mv (.tmp 5))), 0, []⟩,
⟨(some 15), none, (.p (.bin .eql (.tmp 14) (.c (.int .i64 0)))), 0, []⟩])
(.cond (.tmp 15)
(.seq
(.ops [⟨(some 16), none, (.h (.call (.c (.fn 21 [] [])) [])), 0, []⟩,
⟨(some 17), none, (.p (.mv (.tmp 16))), 0, []⟩,
⟨(some 18), (some (17, true)), (.p (.mv (.tmp 4))), 0, []⟩,
⟨(some 19), (some (17, true)), (.p (.bin .eql (.tmp 18) (.c (.int .i64 0)))), 0, []⟩,
⟨(some 20), none, (.p (.pick (.tmp 17) (.tmp 19) (.c (.bool false)))), 0, []⟩,
⟨(some 21), none, (.p (.mv (.tmp 20))), 0, []⟩,
⟨(some 22), (some (21, true)), (.p (.fieldAt 0 (.tmp 3))), 0, []⟩,
⟨(some 23), (some (21, true)), (.r (.load 1 false (.tmp 22))), 0, []⟩,
⟨(some 24), (some (21, true)), (.p (.bin .eql (.tmp 23) (.c (.str [112, 114, 111, 103, 114, 97, 109])))), 0, []⟩,
⟨(some 25), none, (.p (.pick (.tmp 21) (.tmp 24) (.c (.bool false)))), 0, []⟩,
⟨(some 2), none, (.p (.mv (.tmp 25))), 0, []⟩])
.ret)
.skip))
(.seq
(.ops [⟨(some 26), none, (.h (.call (.c (.fn 21 [] [])) [])), 0, []⟩,
⟨(some 27), none, (.p (.mv (.tmp 26))), 0, []⟩,
⟨(some 28), (some (27, true)), (.p (.mv (.tmp 4))), 0, []⟩,
⟨(some 29), (some (27, true)), (.p (.bin .geq (.tmp 28) (.c (.int .i64 0)))), 0, []⟩,
⟨(some 30), none, (.p (.pick (.tmp 27) (.tmp 29) (.c (.bool false)))), 0, []⟩,
⟨(some 31), none, (.p (.mv (.tmp 30))), 0, []⟩,
⟨(some 32), (some (31, true)), (.p (.mv (.tmp 4))), 0, []⟩,
⟨(some 33), (some (31, true)), (.p (.mv (.tmp 0))), 0, []⟩,
⟨(some 34), (some (31, true)), (.p (.lenStr (.tmp 33))), 0, []⟩,
⟨(some 35), (some (31, true)), (.p (.bin .leq (.tmp 32) (.tmp 34))), 0, []⟩,
⟨(some 36), none, (.p (.pick (.tmp 31) (.tmp 35) (.c (.bool false)))), 0, []⟩,
⟨(some 37), none, (.p (.mv (.tmp 36))), 0, []⟩,
⟨(some 38), (some (37, true)), (.p (.mv (.tmp 5))), 0, []⟩,
⟨(some 39), (some (37, true)), (.p (.bin .eql (.tmp 38) (.c (.int .i64 9)))), 0, []⟩,
⟨(some 40), (some (37, true)), (.p (.mv (.tmp 39))), 0, []⟩,
⟨(some 41), (some (40, false)), (.p (.mv (.tmp 5))), 0, []⟩,
⟨(some 42), (some (40, false)), (.p (.bin .eql (.tmp 41) (.c (.int .i64 10)))), 0, []⟩,
⟨(some 43), (some (37, true)), (.p (.pick (.tmp 40) (.c (.bool true)) (.tmp 42))), 0, []⟩,
⟨(some 44), (some (37, true)), (.p (.mv (.tmp 43))), 0, []⟩,
⟨(some 45), (some (44, false)), (.p (.mv (.tmp 5))), 0, []⟩,
⟨(some 46), (some (44, false)), (.p (.bin .eql (.tmp 45) (.c (.int .i64 14)))), 0, []⟩,
⟨(some 47), (some (37, true)), (.p (.pick (.tmp 44) (.c (.bool true)) (.tmp 46))), 0, []⟩,
⟨(some 48), none, (.p (.pick (.tmp 37) (.tmp 47) (.c (.bool false)))), 0, []⟩,
⟨(some 2), none, (.p (.mv (.tmp 48))), 0, []⟩])
.ret)))))⟩
theorem c6 : Mir.compF Tryz.prog Tryz.f6 = some g6 := by kernel_rfl
/-- scribe/scribelaw13.ParseBanned -/
def g7 : Mir.Fn := ⟨65, [(.tmp 2)],
(.seq
(.ops [⟨(some 2), none, (.p (.mv (.c (.bool false)))), 0, []⟩])
(.seq
(.ops [⟨(some 13), none, (.a (.mkSl [(.str [])] 1 6 [(0, (1, (.c (.str [103, 101, 116, 108, 105, 110, 101])))), (1, (1, (.c (.str [115, 121, 115, 116, 101, 109, 40, 34, 120, 34, 41])))), (2, (1, (.c (.str [99, 108, 111, 115, 101, 40, 102, 41])))), (3, (1, (.c (.str [102, 102, 108, 117, 115, 104, 40, 41])))), (4, (1, (.c (.str [115, 121, 115, 116, 105, 109, 101, 40, 41])))), (5, (1, (.c (.str [115, 116, 114, 102, 116, 105, 109, 101, 40, 49, 41]))))])), 0, []⟩,
⟨(some 3), none, (.p (.mv (.tmp 13))), 0, []⟩])
(.seq
(.seq
(.ops [⟨(some 14), none, (.p (.mv (.tmp 0))), 0, []⟩,
⟨(some 15), none, (.p (.bin .lss (.tmp 14) (.c (.int .i64 0)))), 0, []⟩,
⟨(some 16), none, (.p (.mv (.tmp 15))), 0, []⟩,
⟨(some 17), (some (16, false)), (.p (.mv (.tmp 0))), 0, []⟩,
⟨(some 18), (some (16, false)), (.p (.mv (.tmp 3))), 0, []⟩,
⟨(some 19), (some (16, false)), (.p (.lenSl (.tmp 18))), 0, []⟩,
⟨(some 20), (some (16, false)), (.p (.bin .geq (.tmp 17) (.tmp 19))), 0, []⟩,
⟨(some 21), none, (.p (.pick (.tmp 16) (.c (.bool true)) (.tmp 20))), 0, []⟩])
(.cond (.tmp 21)
(.seq
(.ops [⟨(some 22), none, (.h (.call (.c (.fn 21 [] [])) [])), 0, []⟩,
⟨(some 2), none, (.p (.mv (.tmp 22))), 0, []⟩])
.ret)
.skip))
(.seq
(.ops [⟨(some 24), none, (.p (.mv (.tmp 3))), 0, []⟩,
⟨(some 25), none, (.p (.mv (.tmp 0))), 0, []⟩,
⟨(some 26), none, (.p (.idxSl 1 (.tmp 24) (.tmp 25))), 0, []⟩,
⟨(some 27), none, (.r (.load 1 false (.tmp 26))), 0, []⟩,
⟨(some 28), none, (.p (.bin .add (.c (.str [66, 69, 71, 73, 78, 123, 120, 61])) (.tmp 27))), 0, []⟩,
⟨(some 29), none, (.p (.bin .add (.tmp 28) (.c (.str [125])))), 0, []⟩,
⟨(some 30), none, (.h (.call (.c (.fn 14 [] [])) [(.tmp 29)])), 0, []⟩,
⟨(some 23), none, (.p (.mv (.tmp 30))), 0, []⟩,
⟨(some 31), none, (.p (.ext (.tmp 23) 0)), 0, []⟩,
⟨(some 32), none, (.p (.ext (.tmp 23) 1)), 0, []⟩,
⟨(some 33), none, (.p (.ext (.tmp 23) 2)), 0, []⟩,
⟨(some 4), none, (.a (.alloc [(.str []), (.str []), (.int .i64 0), .nilsl])), 0, []⟩,
⟨none, none, (.h (.store 4 (.tmp 4) (.tmp 31))), 0, []⟩,
⟨(some 5), none, (.p (.mv (.tmp 32))), 0, []⟩,
⟨(some 6), none, (.p (.mv (.tmp 33))), 0, []⟩])
(.seq
(.ops [⟨(some 35), none, (.h (.call (.c (.fn 14 [] [])) [(.c (.str [123, 112, 114, 105, 110, 116, 32, 124, 32, 34, 115, 104, 34, 125]))])), 0, []⟩,
⟨(some 34), none, (.p (.mv (.tmp 35))), 0, []⟩,
⟨(some 36), none, (.p (.ext (.tmp 34) 0)), 0, []⟩,
⟨(some 37), none, (.p (.ext (.tmp 34) 1)), 0, []⟩,
⟨(some 38), none, (.p (.ext (.tmp 34) 2)), 0, []⟩,
⟨(some 7), none, (.a (.alloc [(.str []), (.str []), (.int .i64 0), .nilsl])), 0, []⟩,
⟨none, none, (.h (.store 4 (.tmp 7) (.tmp 36))), 0, []⟩,
⟨(some 8), none, (.p (.mv (.tmp 37))), 0, []⟩,
⟨(some 9), none, (.p (.mv (.tmp 38))), 0, []⟩])
(.seq
(.ops [⟨(some 40), none, (.h (.call (.c (.fn 14 [] [])) [(.c (.str [123, 32, 115, 114, 97, 110, 100, 40, 41, 32, 125]))])), 0, []⟩,
⟨(some 39), none, (.p (.mv (.tmp 40))), 0, []⟩,
⟨(some 41), none, (.p (.ext (.tmp 39) 0)), 0, []⟩,
⟨(some 42), none, (.p (.ext (.tmp 39) 1)), 0, []⟩,
⟨(some 43), none, (.p (.ext (.tmp 39) 2)), 0, []⟩,
⟨(some 10), none, (.a (.alloc [(.str []), (.str []), (.int .i64 0), .nilsl])), 0, []⟩,
⟨none, none, (.h (.store 4 (.tmp 10) (.tmp 41))), 0, []⟩,
⟨(some 11), none, (.p (.mv (.tmp 42))), 0, []⟩,
⟨(some 12), none, (.p (.mv (.tmp 43))), 0, []⟩])
(.seq
(.ops [⟨(some 44), none, (.h (.call (.c (.fn 21 [] [])) [])), 0, []⟩,
⟨(some 45), none, (.p (.mv (.tmp 44))), 0, []⟩,
⟨(some 46), (some (45, true)), (.p (.mv (.tmp 6))), 0, []⟩,
⟨(some 47), (some (45, true)), (.p (.bin .eql (.tmp 46) (.c (.int .i64 10)))), 0, []⟩,
⟨(some 48), none, (.p (.pick (.tmp 45) (.tmp 47) (.c (.bool false)))), 0, []⟩,
⟨(some 49), none, (.p (.mv (.tmp 48))), 0, []⟩,
⟨(some 50), (some (49, true)), (.p (.mv (.tmp 5))), 0, []⟩,
⟨(some 51), (some (49, true)), (.p (.bin .eql (.tmp 50) (.c (.int .i64 8)))), 0, []⟩,
⟨(some 52), none, (.p (.pick (.tmp 49) (.tmp 51) (.c (.bool false)))), 0, []⟩,
⟨(some 53), none, (.p (.mv (.tmp 52))), 0, []⟩,
⟨(some 54), (some (53, true)), (.p (.mv (.tmp 9))), 0, []⟩,
⟨(some 55), (some (53, true)), (.p (.bin .eql (.tmp 54) (.c (.int .i64 10)))), 0, []⟩,
⟨(some 56), none, (.p (.pick (.tmp 53) (.tmp 55) (.c (.bool false)))), 0, []⟩,
⟨(some 57), none, (.p (.mv (.tmp 56))), 0, []⟩,
⟨(some 58), (some (57, true)), (.p (.mv (.tmp 12))), 0, []⟩,
⟨(some 59), (some (57, true)), (.p (.bin .eql (.tmp 58) (.c (.int .i64 10)))), 0, []⟩,
⟨(some 60), none, (.p (.pick (.tmp 57) (.tmp 59) (.c (.bool false)))), 0, []⟩,
⟨(some 61), none, (.p (.mv (.tmp 60))), 0, []⟩,
⟨(some 62), (some (61, true)), (.p (.mv (.tmp 11))), 0, []⟩,
⟨(some 63), (some (61, true)), (.p (.bin .eql (.tmp 62) (.c (.int .i64 2)))), 0, []⟩,
⟨(some 64), none, (.p (.pick (.tmp 61) (.tmp 63) (.c (.bool false)))), 0, []⟩,
⟨(some 2), none, (.p (.mv (.tmp 64))), 0, []⟩])
.ret)))))))⟩
theorem c7 : Mir.compF Tryz.prog Tryz.f7 = some g7 := by kernel_rfl
/-- scribe/scribelaw13.ParseDeep -/
def g8 : Mir.Fn := ⟨58, [(.tmp 2)],
(.seq
(.ops [⟨(some 2), none, (.p (.mv (.c (.bool false)))), 0, []⟩])
(.seq
(.seq
(.ops [⟨(some 9), none, (.p (.mv (.tmp 0))), 0, []⟩,
⟨(some 10), none, (.p (.bin .lss (.tmp 9) (.c (.int .i64 0)))), 0, []⟩,
⟨(some 11), none, (.p (.mv (.tmp 10))), 0, []⟩,
⟨(some 12), (some (11, false)), (.p (.mv (.tmp 0))), 0, []⟩,
⟨(some 13), (some (11, false)), (.p (.bin .gtr (.tmp 12) (.c (.int .i64 100)))), 0, []⟩,
⟨(some 14), none, (.p (.pick (.tmp 11) (.c (.bool true)) (.tmp 13))), 0, []⟩])
(.cond (.tmp 14)
(.seq
(.ops [⟨(some 15), none, (.h (.call (.c (.fn 21 [] [])) [])), 0, []⟩,
⟨(some 2), none, (.p (.mv (.tmp 15))), 0, []⟩])
.ret)
.skip))
(.seq
(.ops [⟨(some 3), none, (.p (.mv (.c (.str [])))), 0, []⟩])
(.seq
(.seq
(.ops [⟨(some 4), none, (.p (.mv (.c (.int .i64 0)))), 0, []⟩])
(.block 0 (.loop (.seq
(.seq
(.ops [⟨(some 16), none, (.p (.mv (.tmp 4))), 0, []⟩,
⟨(some 17), none, (.p (.mv (.tmp 0))), 0, []⟩,
⟨(some 18), none, (.p (.bin .lss (.tmp 16) (.tmp 17))), 0, []⟩])
(.cond (.tmp 18)
.skip
(.exit 0)))
(.seq
(.block 1 (.ops [⟨(some 21), none, (.p (.mv (.tmp 3))), 0, []⟩,
⟨(some 22), none, (.p (.bin .add (.tmp 21) (.c (.str [40])))), 0, []⟩,
⟨(some 3), none, (.p (.mv (.tmp 22))), 0, []⟩]))
(.ops [⟨(some 19), none, (.p (.mv (.tmp 4))), 0, []⟩,
⟨(some 20), none, (.p (.bin .add (.tmp 19) (.c (.int .i64 1)))), 0, []⟩,
⟨(some 4), none, (.p (.mv (.tmp 20))), 0, []⟩]))))))
(.seq
(.ops [⟨(some 23), none, (.p (.mv (.tmp 3))), 0, []⟩,
⟨(some 24), none, (.p (.bin .add (.tmp 23) (.c (.str [49])))), 0, []⟩,
⟨(some 3), none, (.p (.mv (.tmp 24))), 0, []⟩])
(.seq
(.seq
(.ops [⟨(some 5), none, (.p (.mv (.c (.int .i64 0)))), 0, []⟩])
(.block 2 (.loop (.seq
(.seq
(.ops [⟨(some 25), none, (.p (.mv (.tmp 5))), 0, []⟩,
⟨(some 26), none, (.p (.mv (.tmp 0))), 0, []⟩,
⟨(some 27), none, (.p (.bin .lss (.tmp 25) (.tmp 26))), 0, []⟩])
(.cond (.tmp 27)
.skip
(.exit 2)))
(.seq
(.block 3 (.ops [⟨(some 30), none, (.p (.mv (.tmp 3))), 0, []⟩,
⟨(some 31), none, (.p (.bin .add (.tmp 30) (.c (.str [41])))), 0, []⟩,
⟨(some 3), none, (.p (.mv (.tmp 31))), 0, []⟩]))
(.ops [⟨(some 28), none, (.p (.mv (.tmp 5))), 0, []⟩,
⟨(some 29), none, (.p (.bin .add (.tmp 28) (.c (.int .i64 1)))), 0, []⟩,
⟨(some 5), none, (.p (.mv (.tmp 29))), 0, []⟩]))))))
(.seq
(.ops [⟨(some 33), none, (.p (.mv (.tmp 3))), 0, []⟩,
⟨(some 34), none, (.h (.call (.c (.fn 14 [] [])) [(.tmp 33)])), 0, []⟩,
⟨(some 32), none, (.p (.mv (.tmp 34))), 0, []⟩,
⟨(some 35), none, (.p (.ext (.tmp 32) 0)), 0, []⟩,
⟨(some 36), none, (.p (.ext (.tmp 32) 1)), 0, []⟩,
⟨(some 37), none, (.p (.ext (.tmp 32) 2)), 0, []⟩,
⟨(some 6), none, (.a (.alloc [(.str []), (.str []), (.int .i64 0), .nilsl])), 0, []⟩,
⟨none, none, (.h (.store 4 (.tmp 6) (.tmp 35))), 0, []⟩,
⟨(some 7), none, (.p (.mv (.tmp 36))), 0, []⟩,
⟨(some 8), none, (.p (.mv (.tmp 37))), 0, []⟩])
(.seq
(.seq
(.ops [⟨(some 38), none, (.p (.mv (.tmp 0))), 0, []⟩,
⟨(some 39), none, (.p (.bin .geq (.tmp 38) (.c (.int .i64 50)))), 0, []⟩])
(.cond (.tmp 39)
(.seq
(.ops [⟨(some 40), none, (.h (.call (.c (.fn 21 [] [])) [])), 0, []⟩,
⟨(some 41), none, (.p (.mv (.tmp 40))), 0, []⟩,
⟨(some 42), (some (41, true)), (.p (.mv (.tmp 8))), 0, []⟩,
⟨(some 43), (some (41, true)), (.p (.bin .eql (.tmp 42) (.c (.int .i64 14)))), 0, []⟩,
⟨(some 44), none, (.p (.pick (.tmp 41) (.tmp 43) (.c (.bool false)))), 0, []⟩,
⟨(some 45), none, (.p (.mv (.tmp 44))), 0, []⟩,
⟨(some 46), (some (45, true)), (.p (.mv (.tmp 7))), 0, []⟩,
⟨(some 47), (some (45, true)), (.p (.bin .eql (.tmp 46) (.c (.int .i64 50)))), 0, []⟩,
⟨(some 48), none, (.p (.pick (.tmp 45) (.tmp 47) (.c (.bool false)))), 0, []⟩,
⟨(some 2), none, (.p (.mv (.tmp 48))), 0, []⟩])
.ret)
.skip))
(.seq
(.ops [⟨(some 49), none, (.h (.call (.c (.fn 21 [] [])) [])), 0, []⟩,
⟨(some 50), none, (.p (.mv (.tmp 49))), 0, []⟩,
⟨(some 51), (some (50, true)), (.p (.mv (.tmp 8))), 0, []⟩,
⟨(some 52), (some (50, true)), (.p (.bin .eql (.tmp 51) (.c (.int .i64 0)))), 0, []⟩,
⟨(some 53), none, (.p (.pick (.tmp 50) (.tmp 52) (.c (.bool false)))), 0, []⟩,
⟨(some 54), none, (.p (.mv (.tmp 53))), 0, []⟩,
⟨(some 55), (some (54, true)), (.p (.mv (.tmp 7))), 0, []⟩,
⟨(some 56), (some (54, true)), (.p (.bin .eql (.tmp 55) (.c (.int .i64 0)))), 0, []⟩,
⟨(some 57), none, (.p (.pick (.tmp 54) (.tmp 56) (.c (.bool false)))), 0, []⟩,
⟨(some 2), none, (.p (.mv (.tmp 57))), 0, []⟩])
.ret)))))))))⟩
theorem c8 : Mir.compF Tryz.prog Tryz.f8 = some g8 := by kernel_rfl
/-- scribe/scribelaw13.ParseLines -/
def g9 : Mir.Fn := ⟨110, [(.tmp 4)],
(.seq
(.ops [⟨(some 4), none, (.p (.mv (.c (.bool false)))), 0, []⟩])
(.seq
(.ops [⟨(some 18), none, (.p (.mv (.tmp 0))), 0, []⟩,
⟨(some 19), none, (.h (.call (.c (.fn 13 [] [])) [(.tmp 18), (.c (.int .i64 200))])), 0, []⟩,
⟨(some 20), none, (.p (.mv (.tmp 1))), 0, []⟩,
⟨(some 21), none, (.h (.call (.c (.fn 13 [] [])) [(.tmp 20), (.c (.int .i64 200))])), 0, []⟩,
⟨(some 0), none, (.p (.mv (.tmp 19))), 0, []⟩,
⟨(some 1), none, (.p (.mv (.tmp 21))), 0, []⟩])
(.seq
(.ops [⟨(some 23), none, (.p (.mv (.tmp 0))), 0, []⟩,
⟨(some 24), none, (.h (.call (.c (.fn 14 [] [])) [(.tmp 23)])), 0, []⟩,
⟨(some 22), none, (.p (.mv (.tmp 24))), 0, []⟩,
⟨(some 25), none, (.p (.ext (.tmp 22) 0)), 0, []⟩,
⟨(some 26), none, (.p (.ext (.tmp 22) 1)), 0, []⟩,
⟨(some 27), none, (.p (.ext (.tmp 22) 2)), 0, []⟩,
⟨(some 5), none, (.a (.alloc [(.str []), (.str []), (.int .i64 0), .nilsl])), 0, []⟩,
⟨none, none, (.h (.store 4 (.tmp 5) (.tmp 25))), 0, []⟩,
⟨(some 6), none, (.p (.mv (.tmp 26))), 0, []⟩,
⟨(some 7), none, (.p (.mv (.tmp 27))), 0, []⟩])
(.seq
(.ops [⟨(some 29), none, (.p (.mv (.tmp 1))), 0, []⟩,
⟨(some 30), none, (.h (.call (.c (.fn 14 [] [])) [(.tmp 29)])), 0, []⟩,
⟨(some 28), none, (.p (.mv (.tmp 30))), 0, []⟩,
⟨(some 31), none, (.p (.ext (.tmp 28) 0)), 0, []⟩,
⟨(some 32), none, (.p (.ext (.tmp 28) 1)), 0, []⟩,
⟨(some 33), none, (.p (.ext (.tmp 28) 2)), 0, []⟩,
⟨(some 8), none, (.a (.alloc [(.str []), (.str []), (.int .i64 0), .nilsl])), 0, []⟩,
⟨none, none, (.h (.store 4 (.tmp 8) (.tmp 31))), 0, []⟩,
⟨(some 9), none, (.p (.mv (.tmp 32))), 0, []⟩,
⟨(some 10), none, (.p (.mv (.tmp 33))), 0, []⟩])
(.seq
(.seq
(.ops [⟨(some 34), none, (.p (.mv (.tmp 7))), 0, []⟩,
⟨(some 35), none, (.p (.bin .neq (.tmp 34) (.c (.int .i64 0)))), 0, []⟩,
⟨(some 36), none, (.p (.mv (.tmp 35))), 0, []⟩,
⟨(some 37), (some (36, false)), (.p (.mv (.tmp 10))), 0, []⟩,
⟨(some 38), (some (36, false)), (.p (.bin .neq (.tmp 37) (.c (.int .i64 0)))), 0, []⟩,
⟨(some 39), none, (.p (.pick (.tmp 36) (.c (.bool true)) (.tmp 38))), 0, []⟩,
⟨(some 40), none, (.p (.mv (.tmp 39))), 0, []⟩,
⟨(some 41), (some (40, false)), (.p (.mv (.tmp 0))), 0, []⟩,
⟨(some 42), (some (40, false)), (.p (.lenStr (.tmp 41))), 0, []⟩,
⟨(some 43), (some (40, false)), (.p (.bin .gtr (.tmp 42) (.c (.int .i64 0)))), 0, []⟩,
⟨(some 44), (some (40, false)), (.p (.mv (.tmp 43))), 0, []⟩,
⟨(some 45), (some (44, true)), (.p (.mv (.tmp 0))), 0, []⟩,
⟨(some 46), (some (44, true)), (.p (.mv (.tmp 0))), 0, []⟩,
⟨(some 47), (some (44, true)), (.p (.lenStr (.tmp 46))), 0, []⟩,
⟨(some 48), (some (44, true)), (.p (.bin .sub (.tmp 47) (.c (.int .i64 1)))), 0, []⟩,
⟨(some 49), (some (44, true)), (.p (.idxStr (.tmp 45) (.tmp 48))), 0, []⟩,
⟨(some 50), (some (44, true)), (.p (.bin .eql (.tmp 49) (.c (.int .u8 92)))), 0, []⟩,
⟨(some 51), (some (40, false)), (.p (.pick (.tmp 44) (.tmp 50) (.c (.bool false)))), 0, []⟩,
⟨(some 52), none, (.p (.pick (.tmp 40) (.c (.bool true)) (.tmp 51))), 0, []⟩])
(.cond (.tmp 52)
(.seq
(.ops [⟨(some 53), none, (.h (.call (.c (.fn 21 [] [])) [])), 0, []⟩,
⟨(some 4), none, (.p (.mv (.tmp 53))), 0, []⟩])
.ret)
.skip))
(.seq
(.ops [⟨(some 55), none, (.p (.mv (.tmp 0))), 0, []⟩,
⟨(some 56), none, (.p (.bin .add (.tmp 55) (.c (.str [10])))), 0, []⟩,
⟨(some 57), none, (.p (.mv (.tmp 1))), 0, []⟩,
⟨(some 58), none, (.p (.bin .add (.tmp 56) (.tmp 57))), 0, []⟩,
⟨(some 59), none, (.h (.call (.c (.fn 14 [] [])) [(.tmp 58)])), 0, []⟩,
⟨(some 54), none, (.p (.mv (.tmp 59))), 0, []⟩,
⟨(some 60), none, (.p (.ext (.tmp 54) 0)), 0, []⟩,
⟨(some 61), none, (.p (.ext (.tmp 54) 1)), 0, []⟩,
⟨(some 62), none, (.p (.ext (.tmp 54) 2)), 0, []⟩,
⟨(some 11), none, (.a (.alloc [(.str []), (.str []), (.int .i64 0), .nilsl])), 0, []⟩,
⟨none, none, (.h (.store 4 (.tmp 11) (.tmp 60))), 0, []⟩,
⟨(some 12), none, (.p (.mv (.tmp 61))), 0, []⟩,
⟨(some 13), none, (.p (.mv (.tmp 62))), 0, []⟩])
(.seq
(.seq
(.ops [⟨(some 63), none, (.p (.mv (.tmp 13))), 0, []⟩,
⟨(some 64), none, (.p (.bin .neq (.tmp 63) (.c (.int .i64 0)))), 0, []⟩,
⟨(some 65), none, (.p (.mv (.tmp 64))), 0, []⟩,
⟨(some 66), (some (65, false)), (.p (.fieldAt 3 (.tmp 11))), 0, []⟩,
⟨(some 67), (some (65, false)), (.r (.load 1 false (.tmp 66))), 0, []⟩,
⟨(some 68), (some (65, false)), (.p (.lenSl (.tmp 67))), 0, []⟩,
⟨(some 69), (some (65, false)), (.p (.fieldAt 3 (.tmp 5))), 0, []⟩,
⟨(some 70), (some (65, false)), (.r (.load 1 false (.tmp 69))), 0, []⟩,
⟨(some 71), (some (65, false)), (.p (.lenSl (.tmp 70))), 0, []⟩,
⟨(some 72), (some (65, false)), (.p (.fieldAt 3 (.tmp 8))), 0, []⟩,
⟨(some 73), (some (65, false)), (.r (.load 1 false (.tmp 72))), 0, []⟩,
⟨(some 74), (some (65, false)), (.p (.lenSl (.tmp 73))), 0, []⟩,
⟨(some 75), (some (65, false)), (.p (.bin .add (.tmp 71) (.tmp 74))), 0, []⟩,
⟨(some 76), (some (65, false)), (.p (.bin .neq (.tmp 68) (.tmp 75))), 0, []⟩,
⟨(some 77), none, (.p (.pick (.tmp 65) (.c (.bool true)) (.tmp 76))), 0, []⟩])
(.cond (.tmp 77)
(.seq
(.ops [⟨(some 4), none, (.p (.mv (.c (.bool false)))), 0, []⟩])
.ret)
.skip))
(.seq
(.seq
(.ops [⟨(some 78), none, (.p (.fieldAt 3 (.tmp 11))), 0, []⟩,
⟨(some 79), none, (.r (.load 1 false (.tmp 78))), 0, []⟩,
⟨(some 80), none, (.p (.lenSl (.tmp 79))), 0, []⟩,
⟨(some 81), none, (.p (.mv (.c (.int .i64 0)))), 0, []⟩])
(.block 0 (.loop (.seq
(.ops [⟨(some 82), none, (.p (.bin .lss (.tmp 81) (.tmp 80))), 0, []⟩])
(.seq
(.cond (.tmp 82)
.skip
(.exit 0))
(.seq
(.block 1 (.seq
(.ops [⟨(some 83), none, (.p (.mv (.tmp 81))), 0, []⟩,
⟨(some 84), none, (.p (.idxSl 4 (.tmp 79) (.tmp 81))), 0, []⟩,
⟨(some 85), none, (.r (.load 4 true (.tmp 84))), 0, []⟩,
⟨(some 15), none, (.a (.alloc [(.str []), (.str []), (.int .i64 0), .nilsl])), 0, []⟩,
⟨(some 14), none, (.p (.mv (.tmp 83))), 0, []⟩,
⟨none, none, (.h (.store 4 (.tmp 15) (.tmp 85))), 0, []⟩])
(.seq
(.ops [⟨(some 86), none, (.p (.fieldAt 3 (.tmp 5))), 0, []⟩,
⟨(some 87), none, (.r (.load 1 false (.tmp 86))), 0, []⟩,
⟨(some 16), none, (.p (.mv (.tmp 87))), 0, []⟩])
(.seq
(.ops [⟨(some 88), none, (.p (.mv (.tmp 14))), 0, []⟩,
⟨(some 17), none, (.p (.mv (.tmp 88))), 0, []⟩])
(.seq
(.seq
(.ops [⟨(some 89), none, (.p (.mv (.tmp 14))), 0, []⟩,
⟨(some 90), none, (.p (.fieldAt 3 (.tmp 5))), 0, []⟩,
⟨(some 91), none, (.r (.load 1 false (.tmp 90))), 0, []⟩,
⟨(some 92), none, (.p (.lenSl (.tmp 91))), 0, []⟩,
⟨(some 93), none, (.p (.bin .geq (.tmp 89) (.tmp 92))), 0, []⟩])
(.cond (.tmp 93)
(.seq
(.ops [⟨(some 94), none, (.p (.fieldAt 3 (.tmp 8))), 0, []⟩,
⟨(some 95), none, (.r (.load 1 false (.tmp 94))), 0, []⟩,
⟨(some 16), none, (.p (.mv (.tmp 95))), 0, []⟩])
(.ops [⟨(some 96), none, (.p (.mv (.tmp 14))), 0, []⟩,
⟨(some 97), none, (.p (.fieldAt 3 (.tmp 5))), 0, []⟩,
⟨(some 98), none, (.r (.load 1 false (.tmp 97))), 0, []⟩,
⟨(some 99), none, (.p (.lenSl (.tmp 98))), 0, []⟩,
⟨(some 100), none, (.p (.bin .sub (.tmp 96) (.tmp 99))), 0, []⟩,
⟨(some 17), none, (.p (.mv (.tmp 100))), 0, []⟩]))
.skip))
(.seq
(.draw [⟨(some 101), none, (.r (.load 4 true (.tmp 15))), 0, []⟩,
⟨(some 102), none, (.p (.mv (.tmp 16))), 1, []⟩,
⟨(some 103), none, (.p (.mv (.tmp 17))), 2, []⟩,
⟨(some 104), none, (.p (.idxSl 4 (.tmp 102) (.tmp 103))), 3, []⟩,
⟨(some 105), none, (.r (.load 4 true (.tmp 104))), 4, []⟩,
⟨(some 106), none, (.h (.call (.c (.fn 22 [] [])) [(.tmp 101), (.tmp 105)])), 5, []⟩,
⟨(some 107), none, (.p (.un .not (.tmp 106))), 6, []⟩])
(.cond (.tmp 107)
(.seq
(.ops [⟨(some 4), none, (.p (.mv (.c (.bool false)))), 0, []⟩])
.ret)
.skip)))))))
(.ops [⟨(some 108), none, (.p (.bin .add (.tmp 81) (.c (.int .i64 1)))), 0, []⟩,
⟨(some 81), none, (.p (.mv (.tmp 108))), 0, []⟩])))))))
(.seq
(.ops [⟨(some 109), none, (.h (.call (.c (.fn 21 [] [])) [])), 0, []⟩,
⟨(some 4), none, (.p (.mv (.tmp 109))), 0, []⟩])
.ret)))))))))⟩
theorem c9 : Mir.compF Tryz.prog Tryz.f9 = some g9 := by kernel_rfl
/-- scribe/scribelaw13.ParseSpaced -/
def g10 : Mir.Fn := ⟨38, [(.tmp 2)],
(.seq
(.ops [⟨(some 2), none, (.p (.mv (.c (.bool false)))), 0, []⟩])
(.seq
(.ops [⟨(some 9), none, (.p (.mv (.tmp 0))), 0, []⟩,
⟨(some 10), none, (.h (.call (.c (.fn 13 [] [])) [(.tmp 9), (.c (.int .i64 300))])), 0, []⟩,
⟨(some 0), none, (.p (.mv (.tmp 10))), 0, []⟩])
(.seq
(.ops [⟨(some 12), none, (.p (.mv (.tmp 0))), 0, []⟩,
⟨(some 13), none, (.h (.call (.c (.fn 14 [] [])) [(.tmp 12)])), 0, []⟩,
⟨(some 11), none, (.p (.mv (.tmp 13))), 0, []⟩,
⟨(some 14), none, (.p (.ext (.tmp 11) 0)), 0, []⟩,
⟨(some 15), none, (.p (.ext (.tmp 11) 1)), 0, []⟩,
⟨(some 16), none, (.p (.ext (.tmp 11) 2)), 0, []⟩,
⟨(some 3), none, (.a (.alloc [(.str []), (.str []), (.int .i64 0), .nilsl])), 0, []⟩,
⟨none, none, (.h (.store 4 (.tmp 3) (.tmp 14))), 0, []⟩,
⟨(some 4), none, (.p (.mv (.tmp 15))), 0, []⟩,
⟨(some 5), none, (.p (.mv (.tmp 16))), 0, []⟩])
(.seq
(.seq
(.ops [⟨(some 17), none, (.p (.mv (.tmp 5))), 0, []⟩,
⟨(some 18), none, (.p (.bin .neq (.tmp 17) (.c (.int .i64 0)))), 0, []⟩])
(.cond (.tmp 18)
(.seq
(.ops [⟨(some 19), none, (.h (.call (.c (.fn 21 [] [])) [])), 0, []⟩,
⟨(some 2), none, (.p (.mv (.tmp 19))), 0, []⟩])
.ret)
.skip))
(.seq
(.ops [⟨(some 21), none, (.p (.mv (.tmp 0))), 0, []⟩,
⟨(some 22), none, (.p (.bin .add (.c (.str [59, 10, 32, 59])) (.tmp 21))), 0, []⟩,
⟨(some 23), none, (.p (.bin .add (.tmp 22) (.c (.str [32, 9, 35, 32, 97, 32, 110, 111, 116, 101])))), 0, []⟩,
⟨(some 24), none, (.h (.call (.c (.fn 14 [] [])) [(.tmp 23)])), 0, []⟩,
⟨(some 20), none, (.p (.mv (.tmp 24))), 0, []⟩,
⟨(some 25), none, (.p (.ext (.tmp 20) 0)), 0, []⟩,
⟨(some 26), none, (.p (.ext (.tmp 20) 1)), 0, []⟩,
⟨(some 27), none, (.p (.ext (.tmp 20) 2)), 0, []⟩,
⟨(some 6), none, (.a (.alloc [(.str []), (.str []), (.int .i64 0), .nilsl])), 0, []⟩,
⟨none, none, (.h (.store 4 (.tmp 6) (.tmp 25))), 0, []⟩,
⟨(some 7), none, (.p (.mv (.tmp 26))), 0, []⟩,
⟨(some 8), none, (.p (.mv (.tmp 27))), 0, []⟩])
(.seq
(.ops [⟨(some 28), none, (.h (.call (.c (.fn 21 [] [])) [])), 0, []⟩,
⟨(some 29), none, (.p (.mv (.tmp 28))), 0, []⟩,
⟨(some 30), (some (29, true)), (.p (.mv (.tmp 8))), 0, []⟩,
⟨(some 31), (some (29, true)), (.p (.bin .eql (.tmp 30) (.c (.int .i64 0)))), 0, []⟩,
⟨(some 32), none, (.p (.pick (.tmp 29) (.tmp 31) (.c (.bool false)))), 0, []⟩,
⟨(some 33), none, (.p (.mv (.tmp 32))), 0, []⟩,
⟨(some 34), (some (33, true)), (.r (.load 4 true (.tmp 6))), 0, []⟩,
⟨(some 35), (some (33, true)), (.r (.load 4 true (.tmp 3))), 0, []⟩,
⟨(some 36), (some (33, true)), (.h (.call (.c (.fn 22 [] [])) [(.tmp 34), (.tmp 35)])), 0, []⟩,
⟨(some 37), none, (.p (.pick (.tmp 33) (.tmp 36) (.c (.bool false)))), 0, []⟩,
⟨(some 2), none, (.p (.mv (.tmp 37))), 0, []⟩])
.ret))))))⟩
theorem c10 : Mir.compF Tryz.prog Tryz.f10 = some g10 := by kernel_rfl
/-- scribe/scribelaw13.ParseInner -/
def g11 : Mir.Fn := ⟨85, [(.tmp 2)],
(.seq
(.ops [⟨(some 2), none, (.p (.mv (.c (.bool false)))), 0, []⟩])
(.seq
(.ops [⟨(some 10), none, (.p (.mv (.tmp 0))), 0, []⟩,
⟨(some 11), none, (.h (.call (.c (.fn 13 [] [])) [(.tmp 10), (.c (.int .i64 100))])), 0, []⟩,
⟨(some 0), none, (.p (.mv (.tmp 11))), 0, []⟩])
(.seq
(.seq
(.ops [⟨(some 3), none, (.p (.mv (.c (.int .i64 0)))), 0, []⟩])
(.block 0 (.loop (.seq
(.seq
(.ops [⟨(some 12), none, (.p (.mv (.tmp 3))), 0, []⟩,
⟨(some 13), none, (.p (.mv (.tmp 0))), 0, []⟩,
⟨(some 14), none, (.p (.lenStr (.tmp 13))), 0, []⟩,
⟨(some 15), none, (.p (.bin .lss (.tmp 12) (.tmp 14))), 0, []⟩])
(.cond (.tmp 15)
.skip
(.exit 0)))
(.seq
(.block 1 (.seq
(.ops [⟨(some 18), none, (.p (.mv (.tmp 0))), 0, []⟩,
⟨(some 19), none, (.p (.mv (.tmp 3))), 0, []⟩,
⟨(some 20), none, (.p (.idxStr (.tmp 18) (.tmp 19))), 0, []⟩,
⟨(some 21), none, (.p (.bin .eql (.tmp 20) (.c (.int .u8 35)))), 0, []⟩,
⟨(some 22), none, (.p (.mv (.tmp 21))), 0, []⟩,
⟨(some 23), (some (22, false)), (.p (.mv (.tmp 0))), 0, []⟩,
⟨(some 24), (some (22, false)), (.p (.mv (.tmp 3))), 0, []⟩,
⟨(some 25), (some (22, false)), (.p (.idxStr (.tmp 23) (.tmp 24))), 0, []⟩,
⟨(some 26), (some (22, false)), (.p (.bin .eql (.tmp 25) (.c (.int .u8 59)))), 0, []⟩,
⟨(some 27), none, (.p (.pick (.tmp 22) (.c (.bool true)) (.tmp 26))), 0, []⟩])
(.cond (.tmp 27)
(.seq
(.ops [⟨(some 28), none, (.h (.call (.c (.fn 21 [] [])) [])), 0, []⟩,
⟨(some 2), none, (.p (.mv (.tmp 28))), 0, []⟩])
.ret)
.skip)))
(.ops [⟨(some 16), none, (.p (.mv (.tmp 3))), 0, []⟩,
⟨(some 17), none, (.p (.bin .add (.tmp 16) (.c (.int .i64 1)))), 0, []⟩,
⟨(some 3), none, (.p (.mv (.tmp 17))), 0, []⟩]))))))
(.seq
(.ops [⟨(some 30), none, (.p (.mv (.tmp 0))), 0, []⟩,
⟨(some 31), none, (.h (.call (.c (.fn 14 [] [])) [(.tmp 30)])), 0, []⟩,
⟨(some 29), none, (.p (.mv (.tmp 31))), 0, []⟩,
⟨(some 32), none, (.p (.ext (.tmp 29) 0)), 0, []⟩,
⟨(some 33), none, (.p (.ext (.tmp 29) 1)), 0, []⟩,
⟨(some 34), none, (.p (.ext (.tmp 29) 2)), 0, []⟩,
⟨(some 4), none, (.a (.alloc [(.str []), (.str []), (.int .i64 0), .nilsl])), 0, []⟩,
⟨none, none, (.h (.store 4 (.tmp 4) (.tmp 32))), 0, []⟩,
⟨(some 5), none, (.p (.mv (.tmp 33))), 0, []⟩,
⟨(some 6), none, (.p (.mv (.tmp 34))), 0, []⟩])
(.seq
(.seq
(.ops [⟨(some 35), none, (.p (.mv (.tmp 6))), 0, []⟩,
⟨(some 36), none, (.p (.bin .neq (.tmp 35) (.c (.int .i64 0)))), 0, []⟩,
⟨(some 37), none, (.p (.mv (.tmp 36))), 0, []⟩,
⟨(some 38), (some (37, false)), (.p (.fieldAt 3 (.tmp 4))), 0, []⟩,
⟨(some 39), (some (37, false)), (.r (.load 1 false (.tmp 38))), 0, []⟩,
⟨(some 40), (some (37, false)), (.p (.lenSl (.tmp 39))), 0, []⟩,
⟨(some 41), (some (37, false)), (.p (.bin .neq (.tmp 40) (.c (.int .i64 1)))), 0, []⟩,
⟨(some 42), none, (.p (.pick (.tmp 37) (.c (.bool true)) (.tmp 41))), 0, []⟩,
⟨(some 43), none, (.p (.mv (.tmp 42))), 0, []⟩,
⟨(some 44), (some (43, false)), (.p (.fieldAt 3 (.tmp 4))), 0, []⟩,
⟨(some 45), (some (43, false)), (.r (.load 1 false (.tmp 44))), 0, []⟩,
⟨(some 46), (some (43, false)), (.p (.idxSl 4 (.tmp 45) (.c (.int .i64 0)))), 0, []⟩,
⟨(some 47), (some (43, false)), (.p (.fieldAt 0 (.tmp 46))), 0, []⟩,
⟨(some 48), (some (43, false)), (.r (.load 1 false (.tmp 47))), 0, []⟩,
⟨(some 49), (some (43, false)), (.p (.bin .neq (.tmp 48) (.c (.str [114, 117, 108, 101])))), 0, []⟩,
⟨(some 50), none, (.p (.pick (.tmp 43) (.c (.bool true)) (.tmp 49))), 0, []⟩,
⟨(some 51), none, (.p (.mv (.tmp 50))), 0, []⟩,
⟨(some 52), (some (51, false)), (.p (.fieldAt 3 (.tmp 4))), 0, []⟩,
⟨(some 53), (some (51, false)), (.r (.load 1 false (.tmp 52))), 0, []⟩,
⟨(some 54), (some (51, false)), (.p (.idxSl 4 (.tmp 53) (.c (.int .i64 0)))), 0, []⟩,
⟨(some 55), (some (51, false)), (.p (.fieldAt 3 (.tmp 54))), 0, []⟩,
⟨(some 56), (some (51, false)), (.r (.load 1 false (.tmp 55))), 0, []⟩,
⟨(some 57), (some (51, false)), (.p (.idxSl 4 (.tmp 56) (.c (.int .i64 1)))), 0, []⟩,
⟨(some 58), (some (51, false)), (.p (.fieldAt 0 (.tmp 57))), 0, []⟩,
⟨(some 59), (some (51, false)), (.r (.load 1 false (.tmp 58))), 0, []⟩,
⟨(some 60), (some (51, false)), (.p (.bin .neq (.tmp 59) (.c (.str [100, 101, 102, 97, 117, 108, 116])))), 0, []⟩,
⟨(some 61), none, (.p (.pick (.tmp 51) (.c (.bool true)) (.tmp 60))), 0, []⟩])
(.cond (.tmp 61)
(.seq
(.ops [⟨(some 62), none, (.h (.call (.c (.fn 21 [] [])) [])), 0, []⟩,
⟨(some 2), none, (.p (.mv (.tmp 62))), 0, []⟩])
.ret)
.skip))
(.seq
(.ops [⟨(some 64), none, (.p (.mv (.tmp 0))), 0, []⟩,
⟨(some 65), none, (.p (.bin .add (.c (.str [40])) (.tmp 64))), 0, []⟩,
⟨(some 66), none, (.p (.bin .add (.tmp 65) (.c (.str [41])))), 0, []⟩,
⟨(some 67), none, (.h (.call (.c (.fn 14 [] [])) [(.tmp 66)])), 0, []⟩,
⟨(some 63), none, (.p (.mv (.tmp 67))), 0, []⟩,
⟨(some 68), none, (.p (.ext (.tmp 63) 0)), 0, []⟩,
⟨(some 69), none, (.p (.ext (.tmp 63) 1)), 0, []⟩,
⟨(some 70), none, (.p (.ext (.tmp 63) 2)), 0, []⟩,
⟨(some 7), none, (.a (.alloc [(.str []), (.str []), (.int .i64 0), .nilsl])), 0, []⟩,
⟨none, none, (.h (.store 4 (.tmp 7) (.tmp 68))), 0, []⟩,
⟨(some 8), none, (.p (.mv (.tmp 69))), 0, []⟩,
⟨(some 9), none, (.p (.mv (.tmp 70))), 0, []⟩])
(.seq
(.ops [⟨(some 71), none, (.h (.call (.c (.fn 21 [] [])) [])), 0, []⟩,
⟨(some 72), none, (.p (.mv (.tmp 71))), 0, []⟩,
⟨(some 73), (some (72, true)), (.p (.mv (.tmp 9))), 0, []⟩,
⟨(some 74), (some (72, true)), (.p (.bin .eql (.tmp 73) (.c (.int .i64 14)))), 0, []⟩,
⟨(some 75), (some (72, true)), (.p (.mv (.tmp 74))), 0, []⟩,
⟨(some 76), (some (75, false)), (.p (.mv (.tmp 9))), 0, []⟩,
⟨(some 77), (some (75, false)), (.p (.bin .eql (.tmp 76) (.c (.int .i64 0)))), 0, []⟩,
⟨(some 78), (some (75, false)), (.p (.mv (.tmp 77))), 0, []⟩,
⟨(some 79), (some (78, true)), (.r (.load 4 true (.tmp 4))), 0, []⟩,
⟨(some 80), (some (78, true)), (.r (.load 4 true (.tmp 7))), 0, []⟩,
⟨(some 81), (some (78, true)), (.h (.call (.c (.fn 22 [] [])) [(.tmp 79), (.tmp 80)])), 0, []⟩,
⟨(some 82), (some (75, false)), (.p (.pick (.tmp 78) (.tmp 81) (.c (.bool false)))), 0, []⟩,
⟨(some 83), (some (72, true)), (.p (.pick (.tmp 75) (.c (.bool true)) (.tmp 82))), 0, []⟩,
⟨(some 84), none, (.p (.pick (.tmp 72) (.tmp 83) (.c (.bool false)))), 0, []⟩,
⟨(some 2), none, (.p (.mv (.tmp 84))), 0, []⟩])
.ret)))))))⟩
theorem c11 : Mir.compF Tryz.prog Tryz.f11 = some g11 := by kernel_rfl
/-- scribe/scribelaw13.ParseOrder -/
def g12 : Mir.Fn := ⟨127, [(.tmp 4)],
(.seq
(.ops [⟨(some 4), none, (.p (.mv (.c (.bool false)))), 0, []⟩])
(.seq
(.ops [⟨(some 12), none, (.a (.mkSl [(.str [])] 1 10 [(0, (1, (.c (.str [124, 124])))), (1, (1, (.c (.str [38, 38])))), (2, (1, (.c (.str [126])))), (3, (1, (.c (.str [60])))), (4, (1, (.c (.str [43])))), (5, (1, (.c (.str [42])))), (6, (1, (.c (.str [45])))), (7, (1, (.c (.str [47])))), (8, (1, (.c (.str [37])))), (9, (1, (.c (.str [33, 126]))))])), 0, []⟩,
⟨(some 5), none, (.p (.mv (.tmp 12))), 0, []⟩])
(.seq
(.ops [⟨(some 13), none, (.a (.mkSl [(.int .i64 0)] 1 10 [(0, (1, (.c (.int .i64 1)))), (1, (1, (.c (.int .i64 2)))), (2, (1, (.c (.int .i64 3)))), (3, (1, (.c (.int .i64 4)))), (4, (1, (.c (.int .i64 5)))), (5, (1, (.c (.int .i64 6)))), (6, (1, (.c (.int .i64 5)))), (7, (1, (.c (.int .i64 6)))), (8, (1, (.c (.int .i64 6)))), (9, (1, (.c (.int .i64 3))))])), 0, []⟩,
⟨(some 6), none, (.p (.mv (.tmp 13))), 0, []⟩])
(.seq
(.ops [⟨(some 14), none, (.a (.mkSl [(.str [])] 1 10 [(0, (1, (.c (.str [111, 114])))), (1, (1, (.c (.str [97, 110, 100])))), (2, (1, (.c (.str [109, 97, 116, 99, 104])))), (3, (1, (.c (.str [108, 101, 115, 115])))), (4, (1, (.c (.str [97, 100, 100])))), (5, (1, (.c (.str [109, 117, 108])))), (6, (1, (.c (.str [115, 117, 98])))), (7, (1, (.c (.str [100, 105, 118])))), (8, (1, (.c (.str [109, 111, 100])))), (9, (1, (.c (.str [110, 111, 109, 97, 116, 99, 104]))))])), 0, []⟩,
⟨(some 7), none, (.p (.mv (.tmp 14))), 0, []⟩])
(.seq
(.seq
(.ops [⟨(some 15), none, (.p (.mv (.tmp 0))), 0, []⟩,
⟨(some 16), none, (.p (.bin .lss (.tmp 15) (.c (.int .i64 0)))), 0, []⟩,
⟨(some 17), none, (.p (.mv (.tmp 16))), 0, []⟩,
⟨(some 18), (some (17, false)), (.p (.mv (.tmp 0))), 0, []⟩,
⟨(some 19), (some (17, false)), (.p (.mv (.tmp 5))), 0, []⟩,
⟨(some 20), (some (17, false)), (.p (.lenSl (.tmp 19))), 0, []⟩,
⟨(some 21), (some (17, false)), (.p (.bin .geq (.tmp 18) (.tmp 20))), 0, []⟩,
⟨(some 22), none, (.p (.pick (.tmp 17) (.c (.bool true)) (.tmp 21))), 0, []⟩,
⟨(some 23), none, (.p (.mv (.tmp 22))), 0, []⟩,
⟨(some 24), (some (23, false)), (.p (.mv (.tmp 1))), 0, []⟩,
⟨(some 25), (some (23, false)), (.p (.bin .lss (.tmp 24) (.c (.int .i64 0)))), 0, []⟩,
⟨(some 26), none, (.p (.pick (.tmp 23) (.c (.bool true)) (.tmp 25))), 0, []⟩,
⟨(some 27), none, (.p (.mv (.tmp 26))), 0, []⟩,
⟨(some 28), (some (27, false)), (.p (.mv (.tmp 1))), 0, []⟩,
⟨(some 29), (some (27, false)), (.p (.mv (.tmp 5))), 0, []⟩,
⟨(some 30), (some (27, false)), (.p (.lenSl (.tmp 29))), 0, []⟩,
⟨(some 31), (some (27, false)), (.p (.bin .geq (.tmp 28) (.tmp 30))), 0, []⟩,
⟨(some 32), none, (.p (.pick (.tmp 27) (.c (.bool true)) (.tmp 31))), 0, []⟩])
(.cond (.tmp 32)
(.seq
(.ops [⟨(some 33), none, (.h (.call (.c (.fn 21 [] [])) [])), 0, []⟩,
⟨(some 4), none, (.p (.mv (.tmp 33))), 0, []⟩])
.ret)
.skip))
(.seq
(.draw [⟨(some 35), none, (.p (.mv (.tmp 5))), 0, []⟩,
⟨(some 36), none, (.p (.mv (.tmp 0))), 1, []⟩,
⟨(some 37), none, (.p (.idxSl 1 (.tmp 35) (.tmp 36))), 2, []⟩,
⟨(some 38), none, (.r (.load 1 false (.tmp 37))), 3, []⟩,
⟨(some 39), none, (.p (.bin .add (.c (.str [66, 69, 71, 73, 78, 123, 120, 32])) (.tmp 38))), 4, []⟩,
⟨(some 40), none, (.p (.bin .add (.tmp 39) (.c (.str [32, 121, 32])))), 5, []⟩,
⟨(some 41), none, (.p (.mv (.tmp 5))), 6, []⟩,
⟨(some 42), none, (.p (.mv (.tmp 1))), 7, []⟩,
⟨(some 43), none, (.p (.idxSl 1 (.tmp 41) (.tmp 42))), 8, []⟩,
⟨(some 44), none, (.r (.load 1 false (.tmp 43))), 9, []⟩,
⟨(some 45), none, (.p (.bin .add (.tmp 40) (.tmp 44))), 10, []⟩,
⟨(some 46), none, (.p (.bin .add (.tmp 45) (.c (.str [32, 122, 125])))), 11, []⟩,
⟨(some 47), none, (.h (.call (.c (.fn 14 [] [])) [(.tmp 46)])), 12, []⟩,
⟨(some 34), none, (.p (.mv (.tmp 47))), 13, []⟩,
⟨(some 48), none, (.p (.ext (.tmp 34) 0)), 14, []⟩,
⟨(some 49), none, (.p (.ext (.tmp 34) 1)), 15, []⟩,
⟨(some 50), none, (.p (.ext (.tmp 34) 2)), 16, []⟩,
⟨(some 8), none, (.a (.alloc [(.str []), (.str []), (.int .i64 0), .nilsl])), 17, []⟩,
⟨none, none, (.h (.store 4 (.tmp 8) (.tmp 48))), 18, []⟩,
⟨(some 9), none, (.p (.mv (.tmp 49))), 19, []⟩,
⟨(some 10), none, (.p (.mv (.tmp 50))), 20, []⟩])
(.seq
(.seq
(.ops [⟨(some 51), none, (.p (.mv (.tmp 0))), 0, []⟩,
⟨(some 52), none, (.p (.bin .eql (.tmp 51) (.c (.int .i64 3)))), 0, []⟩,
⟨(some 53), none, (.p (.mv (.tmp 52))), 0, []⟩,
⟨(some 54), (some (53, true)), (.p (.mv (.tmp 1))), 0, []⟩,
⟨(some 55), (some (53, true)), (.p (.bin .eql (.tmp 54) (.c (.int .i64 3)))), 0, []⟩,
⟨(some 56), none, (.p (.pick (.tmp 53) (.tmp 55) (.c (.bool false)))), 0, []⟩])
(.cond (.tmp 56)
(.seq
(.ops [⟨(some 57), none, (.h (.call (.c (.fn 21 [] [])) [])), 0, []⟩,
⟨(some 58), none, (.p (.mv (.tmp 57))), 0, []⟩,
⟨(some 59), (some (58, true)), (.p (.mv (.tmp 10))), 0, []⟩,
⟨(some 60), (some (58, true)), (.p (.bin .eql (.tmp 59) (.c (.int .i64 9)))), 0, []⟩,
⟨(some 61), none, (.p (.pick (.tmp 58) (.tmp 60) (.c (.bool false)))), 0, []⟩,
⟨(some 4), none, (.p (.mv (.tmp 61))), 0, []⟩])
.ret)
.skip))
(.seq
(.seq
(.ops [⟨(some 62), none, (.p (.mv (.tmp 10))), 0, []⟩,
⟨(some 63), none, (.p (.bin .neq (.tmp 62) (.c (.int .i64 0)))), 0, []⟩,
⟨(some 64), none, (.p (.mv (.tmp 63))), 0, []⟩,
⟨(some 65), (some (64, false)), (.p (.fieldAt 3 (.tmp 8))), 0, []⟩,
⟨(some 66), (some (64, false)), (.r (.load 1 false (.tmp 65))), 0, []⟩,
⟨(some 67), (some (64, false)), (.p (.lenSl (.tmp 66))), 0, []⟩,
⟨(some 68), (some (64, false)), (.p (.bin .neq (.tmp 67) (.c (.int .i64 1)))), 0, []⟩,
⟨(some 69), none, (.p (.pick (.tmp 64) (.c (.bool true)) (.tmp 68))), 0, []⟩])
(.cond (.tmp 69)
(.seq
(.ops [⟨(some 4), none, (.p (.mv (.c (.bool false)))), 0, []⟩])
.ret)
.skip))
(.seq
(.draw [⟨(some 70), none, (.p (.mv (.tmp 7))), 0, []⟩,
⟨(some 71), none, (.p (.mv (.tmp 1))), 1, []⟩,
⟨(some 72), none, (.p (.idxSl 1 (.tmp 70) (.tmp 71))), 2, []⟩,
⟨(some 73), none, (.r (.load 1 false (.tmp 72))), 3, []⟩,
⟨(some 74), none, (.p (.mv (.tmp 7))), 4, []⟩,
⟨(some 75), none, (.p (.mv (.tmp 0))), 5, []⟩,
⟨(some 76), none, (.p (.idxSl 1 (.tmp 74) (.tmp 75))), 6, []⟩,
⟨(some 77), none, (.r (.load 1 false (.tmp 76))), 7, []⟩,
⟨(some 78), none, (.h (.call (.c (.fn 23 [] [])) [(.c (.str [120]))])), 8, [3, 7]⟩,
⟨(some 79), none, (.h (.call (.c (.fn 23 [] [])) [(.c (.str [121]))])), 9, [3, 7]⟩,
⟨(some 82), none, (.h (.call (.c (.fn 23 [] [])) [(.c (.str [122]))])), 12, [3, 7]⟩,
⟨(some 80), none, (.a (.mkSl [(.str []), (.str []), (.int .i64 0), .nilsl] 4 2 [(0, (4, (.tmp 78))), (4, (4, (.tmp 79)))])), 10, []⟩,
⟨(some 81), none, (.p (.build [(.str []), (.str []), (.int .i64 0), .nilsl] [(0, (1, (.tmp 77))), (3, (1, (.tmp 80)))])), 11, []⟩,
⟨(some 83), none, (.a (.mkSl [(.str []), (.str []), (.int .i64 0), .nilsl] 4 2 [(0, (4, (.tmp 81))), (4, (4, (.tmp 82)))])), 13, []⟩,
⟨(some 84), none, (.p (.build [(.str []), (.str []), (.int .i64 0), .nilsl] [(0, (1, (.tmp 73))), (3, (1, (.tmp 83)))])), 14, []⟩,
⟨(some 11), none, (.a (.alloc [(.str []), (.str []), (.int .i64 0), .nilsl])), 15, []⟩,
⟨none, none, (.h (.store 4 (.tmp 11) (.tmp 84))), 16, []⟩])
(.seq
(.seq
(.draw [⟨(some 85), none, (.p (.mv (.tmp 6))), 0, []⟩,
⟨(some 86), none, (.p (.mv (.tmp 1))), 1, []⟩,
⟨(some 87), none, (.p (.idxSl 1 (.tmp 85) (.tmp 86))), 2, []⟩,
⟨(some 88), none, (.r (.load 1 false (.tmp 87))), 3, []⟩,
⟨(some 89), none, (.p (.mv (.tmp 6))), 4, []⟩,
⟨(some 90), none, (.p (.mv (.tmp 0))), 5, []⟩,
⟨(some 91), none, (.p (.idxSl 1 (.tmp 89) (.tmp 90))), 6, []⟩,
⟨(some 92), none, (.r (.load 1 false (.tmp 91))), 7, []⟩,
⟨(some 93), none, (.p (.bin .gtr (.tmp 88) (.tmp 92))), 8, []⟩])
(.cond (.tmp 93)
(.draw [⟨(some 94), none, (.p (.mv (.tmp 7))), 0, []⟩,
⟨(some 95), none, (.p (.mv (.tmp 0))), 1, []⟩,
⟨(some 96), none, (.p (.idxSl 1 (.tmp 94) (.tmp 95))), 2, []⟩,
⟨(some 97), none, (.r (.load 1 false (.tmp 96))), 3, []⟩,
⟨(some 99), none, (.p (.mv (.tmp 7))), 5, []⟩,
⟨(some 100), none, (.p (.mv (.tmp 1))), 6, []⟩,
⟨(some 101), none, (.p (.idxSl 1 (.tmp 99) (.tmp 100))), 7, []⟩,
⟨(some 102), none, (.r (.load 1 false (.tmp 101))), 8, []⟩,
⟨(some 98), none, (.h (.call (.c (.fn 23 [] [])) [(.c (.str [120]))])), 4, [3, 8]⟩,
⟨(some 103), none, (.h (.call (.c (.fn 23 [] [])) [(.c (.str [121]))])), 9, [3, 8]⟩,
⟨(some 104), none, (.h (.call (.c (.fn 23 [] [])) [(.c (.str [122]))])), 10, [3, 8]⟩,
⟨(some 105), none, (.a (.mkSl [(.str []), (.str []), (.int .i64 0), .nilsl] 4 2 [(0, (4, (.tmp 103))), (4, (4, (.tmp 104)))])), 11, []⟩,
⟨(some 106), none, (.p (.build [(.str []), (.str []), (.int .i64 0), .nilsl] [(0, (1, (.tmp 102))), (3, (1, (.tmp 105)))])), 12, []⟩,
⟨(some 107), none, (.a (.mkSl [(.str []), (.str []), (.int .i64 0), .nilsl] 4 2 [(0, (4, (.tmp 98))), (4, (4, (.tmp 106)))])), 13, []⟩,
⟨(some 108), none, (.p (.build [(.str []), (.str []), (.int .i64 0), .nilsl] [(0, (1, (.tmp 97))), (3, (1, (.tmp 107)))])), 14, []⟩,
⟨none, none, (.h (.store 4 (.tmp 11) (.tmp 108))), 15, []⟩])
.skip))
(.seq
(.draw [⟨(some 109), none, (.h (.call (.c (.fn 21 [] [])) [])), 0, []⟩,
⟨(some 110), none, (.p (.mv (.tmp 109))), 1, []⟩,
⟨(some 111), (some (110, true)), (.p (.fieldAt 3 (.tmp 8))), 2, []⟩,
⟨(some 112), (some (110, true)), (.r (.load 1 false (.tmp 111))), 3, []⟩,
⟨(some 113), (some (110, true)), (.p (.idxSl 4 (.tmp 112) (.c (.int .i64 0)))), 4, []⟩,
⟨(some 114), (some (110, true)), (.p (.fieldAt 3 (.tmp 113))), 5, []⟩,
⟨(some 115), (some (110, true)), (.r (.load 1 false (.tmp 114))), 6, []⟩,
⟨(some 116), (some (110, true)), (.p (.idxSl 4 (.tmp 115) (.c (.int .i64 0)))), 7, []⟩,
⟨(some 117), (some (110, true)), (.p (.fieldAt 3 (.tmp 116))), 8, []⟩,
⟨(some 118), (some (110, true)), (.r (.load 1 false (.tmp 117))), 9, []⟩,
⟨(some 119), (some (110, true)), (.p (.idxSl 4 (.tmp 118) (.c (.int .i64 0)))), 10, []⟩,
⟨(some 120), (some (110, true)), (.p (.fieldAt 3 (.tmp 119))), 11, []⟩,
⟨(some 121), (some (110, true)), (.r (.load 1 false (.tmp 120))), 12, []⟩,
⟨(some 122), (some (110, true)), (.p (.idxSl 4 (.tmp 121) (.c (.int .i64 0)))), 13, []⟩,
⟨(some 123), (some (110, true)), (.r (.load 4 true (.tmp 122))), 14, []⟩,
⟨(some 124), (some (110, true)), (.r (.load 4 true (.tmp 11))), 15, []⟩,
⟨(some 125), (some (110, true)), (.h (.call (.c (.fn 22 [] [])) [(.tmp 123), (.tmp 124)])), 16, []⟩,
⟨(some 126), none, (.p (.pick (.tmp 110) (.tmp 125) (.c (.bool false)))), 17, []⟩,
⟨(some 4), none, (.p (.mv (.tmp 126))), 18, []⟩])
.ret)))))))))))⟩
theorem c12 : Mir.compF Tryz.prog Tryz.f12 = some g12 := by kernel_rfl
/-- scribe/scribelaw01.Cut -/
def g13 : Mir.Fn := ⟨13, [(.tmp 4)],
(.seq
(.ops [⟨(some 4), none, (.p (.mv (.c (.str [])))), 0, []⟩])
(.seq
(.seq
(.ops [⟨(some 5), none, (.p (.mv (.tmp 0))), 0, []⟩,
⟨(some 6), none, (.p (.lenStr (.tmp 5))), 0, []⟩,
⟨(some 7), none, (.p (.mv (.tmp 1))), 0, []⟩,
⟨(some 8), none, (.p (.bin .gtr (.tmp 6) (.tmp 7))), 0, []⟩])
(.cond (.tmp 8)
(.seq
(.ops [⟨(some 9), none, (.p (.mv (.tmp 0))), 0, []⟩,
⟨(some 10), none, (.p (.mv (.tmp 1))), 0, []⟩,
⟨(some 11), none, (.p (.subStr (.tmp 9) none (some (.tmp 10)))), 0, []⟩,
⟨(some 4), none, (.p (.mv (.tmp 11))), 0, []⟩])
.ret)
.skip))
(.seq
(.ops [⟨(some 12), none, (.p (.mv (.tmp 0))), 0, []⟩,
⟨(some 4), none, (.p (.mv (.tmp 12))), 0, []⟩])
.ret)))⟩
theorem c13 : Mir.compF Tryz.prog Tryz.f13 = some g13 := by kernel_rfl
/-- scribe/parse.Parse -/
def g14 : Mir.Fn := ⟨67, [(.cell 2 4 true), (.tmp 3), (.tmp 4)],
(.seq
(.ops [⟨(some 2), none, (.a (.alloc [(.str []), (.str []), (.int .i64 0), .nilsl])), 0, []⟩,
⟨(some 3), none, (.p (.mv (.c (.int .i64 0)))), 0, []⟩,
⟨(some 4), none, (.p (.mv (.c (.int .i64 0)))), 0, []⟩])
(.seq
(.ops [⟨(some 11), none, (.p (.mv (.tmp 0))), 0, []⟩,
⟨(some 12), none, (.h (.call (.c (.fn 24 [] [])) [(.tmp 11)])), 0, []⟩,
⟨(some 10), none, (.p (.mv (.tmp 12))), 0, []⟩,
⟨(some 13), none, (.p (.ext (.tmp 10) 0)), 0, []⟩,
⟨(some 14), none, (.p (.ext (.tmp 10) 1)), 0, []⟩,
⟨(some 15), none, (.p (.ext (.tmp 10) 2)), 0, []⟩,
⟨(some 5), none, (.p (.mv (.tmp 13))), 0, []⟩,
⟨(some 6), none, (.p (.mv (.tmp 14))), 0, []⟩,
⟨(some 7), none, (.p (.mv (.tmp 15))), 0, []⟩])
(.seq
(.seq
(.ops [⟨(some 16), none, (.p (.mv (.tmp 7))), 0, []⟩,
⟨(some 17), none, (.p (.bin .neq (.tmp 16) (.c (.int .i64 0)))), 0, []⟩])
(.cond (.tmp 17)
(.seq
(.ops [⟨(some 18), none, (.p (.build [(.str []), (.str []), (.int .i64 0), .nilsl] [])), 0, []⟩,
⟨(some 19), none, (.p (.mv (.tmp 6))), 0, []⟩,
⟨(some 20), none, (.p (.mv (.tmp 7))), 0, []⟩,
⟨none, none, (.h (.store 4 (.tmp 2) (.tmp 18))), 0, []⟩,
⟨(some 3), none, (.p (.mv (.tmp 19))), 0, []⟩,
⟨(some 4), none, (.p (.mv (.tmp 20))), 0, []⟩])
.ret)
.skip))
(.seq
(.ops [⟨(some 21), none, (.p (.mv (.tmp 5))), 0, []⟩,
⟨(some 22), none, (.p (.build [.nilsl, (.int .i64 0), (.int .i64 0), (.bool false), (.int .i64 0), (.int .i64 0)] [(0, (1, (.tmp 21)))])), 0, []⟩,
⟨(some 23), none, (.a (.box (.tmp 22))), 0, []⟩,
⟨(some 8), none, (.p (.mv (.tmp 23))), 0, []⟩])
(.seq
(.ops [⟨(some 24), none, (.h (.call (.c (.fn 25 [] [])) [(.c (.str [112, 114, 111, 103, 114, 97, 109])), (.c .nilsl)])), 0, []⟩,
⟨(some 9), none, (.a (.alloc [(.str []), (.str []), (.int .i64 0), .nilsl])), 0, []⟩,
⟨none, none, (.h (.store 4 (.tmp 9) (.tmp 24))), 0, []⟩])
(.seq
(.block 0 (.loop (.seq
(.seq
(.ops [⟨(some 25), none, (.p (.mv (.tmp 8))), 0, []⟩,
⟨(some 26), none, (.p (.nilchk (.tmp 25))), 0, []⟩,
⟨(some 27), none, (.p (.fieldAt 4 (.tmp 26))), 0, []⟩,
⟨(some 28), none, (.r (.load 1 false (.tmp 27))), 0, []⟩,
⟨(some 29), none, (.p (.bin .eql (.tmp 28) (.c (.int .i64 0)))), 0, []⟩])
(.cond (.tmp 29)
.skip
(.exit 0)))
(.block 1 (.seq
(.block 2 (.loop (.seq
(.seq
(.ops [⟨(some 30), none, (.p (.mv (.tmp 8))), 0, []⟩,
⟨(some 31), none, (.a (.mkSl [(.str [])] 1 1 [(0, (1, (.c (.str [59]))))])), 0, []⟩,
⟨(some 32), none, (.h (.call (.c (.fn 26 [] [])) [(.tmp 30), (.tmp 31)])), 0, []⟩,
⟨(some 33), none, (.p (.mv (.tmp 32))), 0, []⟩,
⟨(some 34), (some (33, false)), (.p (.mv (.tmp 8))), 0, []⟩,
⟨(some 35), (some (33, false)), (.h (.call (.c (.fn 27 [] [])) [(.tmp 34)])), 0, []⟩,
⟨(some 36), (some (33, false)), (.p (.field 0 1 false (.tmp 35))), 0, []⟩,
⟨(some 37), (some (33, false)), (.p (.bin .eql (.tmp 36) (.c (.int .i64 1)))), 0, []⟩,
⟨(some 38), none, (.p (.pick (.tmp 33) (.c (.bool true)) (.tmp 37))), 0, []⟩])
(.cond (.tmp 38)
.skip
(.exit 2)))
(.block 3 (.ops [⟨(some 39), none, (.p (.mv (.tmp 8))), 0, []⟩,
⟨(some 40), none, (.h (.call (.c (.fn 28 [] [])) [(.tmp 39)])), 0, []⟩])))))
(.seq
(.seq
(.ops [⟨(some 41), none, (.p (.mv (.tmp 8))), 0, []⟩,
⟨(some 42), none, (.h (.call (.c (.fn 27 [] [])) [(.tmp 41)])), 0, []⟩,
⟨(some 43), none, (.p (.field 0 1 false (.tmp 42))), 0, []⟩,
⟨(some 44), none, (.p (.bin .eql (.tmp 43) (.c (.int .i64 0)))), 0, []⟩])
(.cond (.tmp 44)
(.exit 0)
.skip))
(.draw [⟨(some 45), none, (.p (.fieldAt 3 (.tmp 9))), 0, []⟩,
⟨(some 46), none, (.r (.load 1 false (.tmp 45))), 1, []⟩,
⟨(some 47), none, (.p (.mv (.tmp 8))), 2, []⟩,
⟨(some 48), none, (.h (.call (.c (.fn 29 [] [])) [(.tmp 47)])), 3, [1]⟩,
⟨(some 49), none, (.a (.mkSl [(.str []), (.str []), (.int .i64 0), .nilsl] 4 1 [(0, (4, (.tmp 48)))])), 4, []⟩,
⟨(some 50), none, (.h (.app 4 64 (.tmp 46) (.tmp 49))), 5, []⟩,
⟨(some 51), none, (.p (.fieldAt 3 (.tmp 9))), 6, []⟩,
⟨none, none, (.h (.store 1 (.tmp 51) (.tmp 50))), 7, []⟩])))))))
(.seq
(.seq
(.ops [⟨(some 52), none, (.p (.mv (.tmp 8))), 0, []⟩,
⟨(some 53), none, (.p (.nilchk (.tmp 52))), 0, []⟩,
⟨(some 54), none, (.p (.fieldAt 4 (.tmp 53))), 0, []⟩,
⟨(some 55), none, (.r (.load 1 false (.tmp 54))), 0, []⟩,
⟨(some 56), none, (.p (.bin .neq (.tmp 55) (.c (.int .i64 0)))), 0, []⟩])
(.cond (.tmp 56)
(.seq
(.draw [⟨(some 57), none, (.p (.build [(.str []), (.str []), (.int .i64 0), .nilsl] [])), 0, []⟩,
⟨(some 58), none, (.p (.mv (.tmp 8))), 1, []⟩,
⟨(some 59), none, (.p (.nilchk (.tmp 58))), 2, []⟩,
⟨(some 60), none, (.p (.fieldAt 5 (.tmp 59))), 3, []⟩,
⟨(some 61), none, (.r (.load 1 false (.tmp 60))), 4, []⟩,
⟨(some 62), none, (.p (.mv (.tmp 8))), 5, []⟩,
⟨(some 63), none, (.p (.nilchk (.tmp 62))), 6, []⟩,
⟨(some 64), none, (.p (.fieldAt 4 (.tmp 63))), 7, []⟩,
⟨(some 65), none, (.r (.load 1 false (.tmp 64))), 8, []⟩,
⟨none, none, (.h (.store 4 (.tmp 2) (.tmp 57))), 9, [4, 8]⟩,
⟨(some 3), none, (.p (.mv (.tmp 61))), 10, []⟩,
⟨(some 4), none, (.p (.mv (.tmp 65))), 11, []⟩])
.ret)
.skip))
(.seq
(.ops [⟨(some 66), none, (.r (.load 4 true (.tmp 9))), 0, []⟩,
⟨none, none, (.h (.store 4 (.tmp 2) (.tmp 66))), 0, []⟩,
⟨(some 3), none, (.p (.mv (.c (.int .i64 0)))), 0, []⟩,
⟨(some 4), none, (.p (.mv (.c (.int .i64 0)))), 0, []⟩])
.ret))))))))⟩
theorem c14 : Mir.compF Tryz.prog Tryz.f14 = some g14 := by kernel_rfl
/-- scribe/scribelaw14.awake -/
def g15 : Mir.Fn := ⟨86, [(.tmp 0)],
(.seq
(.ops [⟨(some 0), none, (.p (.mv (.c (.bool false)))), 0, []⟩])
(.seq
(.ops [⟨(some 8), none, (.h (.call (.c (.fn 20 [] [])) [(.c (.str [102, 117, 110, 99, 116, 105, 111, 110, 32, 102, 40, 97, 41, 123, 97, 91, 49, 93, 61, 49, 125, 32, 66, 69, 71, 73, 78, 123, 102, 40, 120, 41, 59, 112, 114, 105, 110, 116, 32, 120, 91, 49, 93, 125]))])), 0, []⟩,
⟨(some 7), none, (.p (.mv (.tmp 8))), 0, []⟩,
⟨(some 9), none, (.p (.ext (.tmp 7) 0)), 0, []⟩,
⟨(some 10), none, (.p (.ext (.tmp 7) 1)), 0, []⟩,
⟨(some 11), none, (.p (.ext (.tmp 7) 2)), 0, []⟩,
⟨(some 1), none, (.p (.mv (.tmp 9))), 0, []⟩,
⟨(some 2), none, (.p (.mv (.tmp 10))), 0, []⟩,
⟨(some 3), none, (.p (.mv (.tmp 11))), 0, []⟩])
(.seq
(.ops [⟨(some 13), none, (.h (.call (.c (.fn 20 [] [])) [(.c (.str [102, 117, 110, 99, 116, 105, 111, 110, 32, 102, 40, 97, 41, 123, 97, 91, 49, 93, 61, 49, 125, 32, 66, 69, 71, 73, 78, 123, 102, 40, 120, 41, 59, 112, 114, 105, 110, 116, 32, 120, 125]))])), 0, []⟩,
⟨(some 12), none, (.p (.mv (.tmp 13))), 0, []⟩,
⟨(some 14), none, (.p (.ext (.tmp 12) 0)), 0, []⟩,
⟨(some 15), none, (.p (.ext (.tmp 12) 1)), 0, []⟩,
⟨(some 16), none, (.p (.ext (.tmp 12) 2)), 0, []⟩,
⟨(some 4), none, (.p (.mv (.tmp 14))), 0, []⟩,
⟨(some 5), none, (.p (.mv (.tmp 15))), 0, []⟩,
⟨(some 6), none, (.p (.mv (.tmp 16))), 0, []⟩])
(.seq
(.ops [⟨(some 17), none, (.p (.mv (.tmp 3))), 0, []⟩,
⟨(some 18), none, (.p (.bin .eql (.tmp 17) (.c (.int .i64 0)))), 0, []⟩,
⟨(some 19), none, (.p (.mv (.tmp 18))), 0, []⟩,
⟨(some 20), (some (19, true)), (.p (.mv (.tmp 1))), 0, []⟩,
⟨(some 21), (some (19, true)), (.p (.eq .ptr true (.tmp 20) (.c .nilptr))), 0, []⟩,
⟨(some 22), none, (.p (.pick (.tmp 19) (.tmp 21) (.c (.bool false)))), 0, []⟩,
⟨(some 23), none, (.p (.mv (.tmp 22))), 0, []⟩,
⟨(some 24), (some (23, true)), (.p (.mv (.tmp 1))), 0, []⟩,
⟨(some 25), (some (23, true)), (.p (.nilchk (.tmp 24))), 0, []⟩,
⟨(some 26), (some (23, true)), (.p (.fieldAt 0 (.tmp 25))), 0, []⟩,
⟨(some 27), (some (23, true)), (.r (.load 1 false (.tmp 26))), 0, []⟩,
⟨(some 28), (some (23, true)), (.p (.lenSl (.tmp 27))), 0, []⟩,
⟨(some 29), (some (23, true)), (.p (.bin .eql (.tmp 28) (.c (.int .i64 1)))), 0, []⟩,
⟨(some 30), none, (.p (.pick (.tmp 23) (.tmp 29) (.c (.bool false)))), 0, []⟩,
⟨(some 31), none, (.p (.mv (.tmp 30))), 0, []⟩,
⟨(some 32), (some (31, true)), (.p (.mv (.tmp 1))), 0, []⟩,
⟨(some 33), (some (31, true)), (.p (.nilchk (.tmp 32))), 0, []⟩,
⟨(some 34), (some (31, true)), (.p (.fieldAt 0 (.tmp 33))), 0, []⟩,
⟨(some 35), (some (31, true)), (.r (.load 1 false (.tmp 34))), 0, []⟩,
⟨(some 36), (some (31, true)), (.p (.idxSl 7 (.tmp 35) (.c (.int .i64 0)))), 0, []⟩,
⟨(some 37), (some (31, true)), (.p (.fieldAt 2 (.tmp 36))), 0, []⟩,
⟨(some 38), (some (31, true)), (.r (.load 1 false (.tmp 37))), 0, []⟩,
⟨(some 39), (some (31, true)), (.p (.lenSl (.tmp 38))), 0, []⟩,
⟨(some 40), (some (31, true)), (.p (.bin .eql (.tmp 39) (.c (.int .i64 1)))), 0, []⟩,
⟨(some 41), none, (.p (.pick (.tmp 31) (.tmp 40) (.c (.bool false)))), 0, []⟩,
⟨(some 42), none, (.p (.mv (.tmp 41))), 0, []⟩,
⟨(some 43), (some (42, true)), (.p (.mv (.tmp 1))), 0, []⟩,
⟨(some 44), (some (42, true)), (.p (.nilchk (.tmp 43))), 0, []⟩,
⟨(some 45), (some (42, true)), (.p (.fieldAt 0 (.tmp 44))), 0, []⟩,
⟨(some 46), (some (42, true)), (.r (.load 1 false (.tmp 45))), 0, []⟩,
⟨(some 47), (some (42, true)), (.p (.idxSl 7 (.tmp 46) (.c (.int .i64 0)))), 0, []⟩,
⟨(some 48), (some (42, true)), (.p (.fieldAt 2 (.tmp 47))), 0, []⟩,
⟨(some 49), (some (42, true)), (.r (.load 1 false (.tmp 48))), 0, []⟩,
⟨(some 50), (some (42, true)), (.p (.idxSl 1 (.tmp 49) (.c (.int .i64 0)))), 0, []⟩,
⟨(some 51), (some (42, true)), (.r (.load 1 false (.tmp 50))), 0, []⟩,
⟨(some 52), none, (.p (.pick (.tmp 42) (.tmp 51) (.c (.bool false)))), 0, []⟩,
⟨(some 53), none, (.p (.mv (.tmp 52))), 0, []⟩,
⟨(some 54), (some (53, true)), (.p (.mv (.tmp 1))), 0, []⟩,
⟨(some 55), (some (53, true)), (.p (.nilchk (.tmp 54))), 0, []⟩,
⟨(some 56), (some (53, true)), (.p (.fieldAt 1 (.tmp 55))), 0, []⟩,
⟨(some 57), (some (53, true)), (.r (.load 1 false (.tmp 56))), 0, []⟩,
⟨(some 58), (some (53, true)), (.p (.lenSl (.tmp 57))), 0, []⟩,
⟨(some 59), (some (53, true)), (.p (.bin .eql (.tmp 58) (.c (.int .i64 1)))), 0, []⟩,
⟨(some 60), none, (.p (.pick (.tmp 53) (.tmp 59) (.c (.bool false)))), 0, []⟩,
⟨(some 61), none, (.p (.mv (.tmp 60))), 0, []⟩,
⟨(some 62), (some (61, true)), (.p (.mv (.tmp 1))), 0, []⟩,
⟨(some 63), (some (61, true)), (.p (.nilchk (.tmp 62))), 0, []⟩,
⟨(some 64), (some (61, true)), (.p (.fieldAt 1 (.tmp 63))), 0, []⟩,
⟨(some 65), (some (61, true)), (.r (.load 1 false (.tmp 64))), 0, []⟩,
⟨(some 66), (some (61, true)), (.p (.idxSl 1 (.tmp 65) (.c (.int .i64 0)))), 0, []⟩,
⟨(some 67), (some (61, true)), (.r (.load 1 false (.tmp 66))), 0, []⟩,
⟨(some 68), (some (61, true)), (.p (.bin .eql (.tmp 67) (.c (.str [120])))), 0, []⟩,
⟨(some 69), none, (.p (.pick (.tmp 61) (.tmp 68) (.c (.bool false)))), 0, []⟩,
⟨(some 70), none, (.p (.mv (.tmp 69))), 0, []⟩,
⟨(some 71), (some (70, true)), (.p (.mv (.tmp 1))), 0, []⟩,
⟨(some 72), (some (70, true)), (.p (.nilchk (.tmp 71))), 0, []⟩,
⟨(some 73), (some (70, true)), (.p (.fieldAt 2 (.tmp 72))), 0, []⟩,
⟨(some 74), (some (70, true)), (.r (.load 1 false (.tmp 73))), 0, []⟩,
⟨(some 75), (some (70, true)), (.p (.idxSl 1 (.tmp 74) (.c (.int .i64 0)))), 0, []⟩,
⟨(some 76), (some (70, true)), (.r (.load 1 false (.tmp 75))), 0, []⟩,
⟨(some 77), none, (.p (.pick (.tmp 70) (.tmp 76) (.c (.bool false)))), 0, []⟩,
⟨(some 78), none, (.p (.mv (.tmp 77))), 0, []⟩,
⟨(some 79), (some (78, true)), (.p (.mv (.tmp 6))), 0, []⟩,
⟨(some 80), (some (78, true)), (.p (.bin .eql (.tmp 79) (.c (.int .i64 11)))), 0, []⟩,
⟨(some 81), none, (.p (.pick (.tmp 78) (.tmp 80) (.c (.bool false)))), 0, []⟩,
⟨(some 82), none, (.p (.mv (.tmp 81))), 0, []⟩,
⟨(some 83), (some (82, true)), (.p (.mv (.tmp 5))), 0, []⟩,
⟨(some 84), (some (82, true)), (.p (.bin .eql (.tmp 83) (.c (.int .i64 39)))), 0, []⟩,
⟨(some 85), none, (.p (.pick (.tmp 82) (.tmp 84) (.c (.bool false)))), 0, []⟩,
⟨(some 0), none, (.p (.mv (.tmp 85))), 0, []⟩])
.ret))))⟩
theorem c15 : Mir.compF Tryz.prog Tryz.f15 = some g15 := by kernel_rfl
/-- scribe/resolve.Resolve -/
def g16 : Mir.Fn := ⟨158, [(.tmp 2), (.tmp 3), (.tmp 4)],
(.seq
(.ops [⟨(some 1), none, (.a (.box (.tmp 0))), 0, []⟩,
⟨(some 2), none, (.p (.mv (.c .nilptr))), 0, []⟩,
⟨(some 3), none, (.p (.mv (.c (.int .i64 0)))), 0, []⟩,
⟨(some 4), none, (.p (.mv (.c (.int .i64 0)))), 0, []⟩])
(.seq
(.ops [⟨(some 15), none, (.a .mkMap), 0, []⟩,
⟨(some 16), none, (.p (.build [.nilsl, .nilsl, .nilsl] [])), 0, []⟩,
⟨(some 17), none, (.a (.box (.tmp 16))), 0, []⟩,
⟨(some 18), none, (.a .mkMap), 0, []⟩,
⟨(some 19), none, (.p (.build [.nilmap, .nilptr, .nilmap, .nilsl, (.int .i64 0), (.int .i64 0)] [(0, (1, (.tmp 15))), (1, (1, (.tmp 17))), (2, (1, (.tmp 18)))])), 0, []⟩,
⟨(some 20), none, (.a (.box (.tmp 19))), 0, []⟩,
⟨(some 5), none, (.p (.mv (.tmp 20))), 0, []⟩])
(.seq
(.ops [⟨(some 21), none, (.p (.mv (.tmp 5))), 0, []⟩,
⟨(some 22), none, (.p (.fieldAt 3 (.tmp 1))), 0, []⟩,
⟨(some 23), none, (.r (.load 1 false (.tmp 22))), 0, []⟩,
⟨(some 24), none, (.h (.call (.c (.fn 30 [] [])) [(.tmp 21), (.tmp 23)])), 0, []⟩])
(.seq
(.ops [⟨(some 25), none, (.p (.mv (.tmp 5))), 0, []⟩,
⟨(some 26), none, (.p (.fieldAt 3 (.tmp 1))), 0, []⟩,
⟨(some 27), none, (.r (.load 1 false (.tmp 26))), 0, []⟩,
⟨(some 28), none, (.h (.call (.c (.fn 31 [] [])) [(.tmp 25), (.tmp 27)])), 0, []⟩])
(.seq
(.ops [⟨(some 6), none, (.p (.mv (.c (.int .i64 0)))), 0, []⟩])
(.seq
(.seq
(.ops [⟨(some 29), none, (.p (.fieldAt 3 (.tmp 1))), 0, []⟩,
⟨(some 30), none, (.r (.load 1 false (.tmp 29))), 0, []⟩,
⟨(some 31), none, (.p (.lenSl (.tmp 30))), 0, []⟩,
⟨(some 32), none, (.p (.mv (.c (.int .i64 0)))), 0, []⟩])
(.block 0 (.loop (.seq
(.ops [⟨(some 33), none, (.p (.bin .lss (.tmp 32) (.tmp 31))), 0, []⟩])
(.seq
(.cond (.tmp 33)
.skip
(.exit 0))
(.seq
(.block 1 (.seq
(.ops [⟨(some 34), none, (.p (.idxSl 4 (.tmp 30) (.tmp 32))), 0, []⟩,
⟨(some 35), none, (.r (.load 4 true (.tmp 34))), 0, []⟩,
⟨(some 8), none, (.a (.alloc [(.str []), (.str []), (.int .i64 0), .nilsl])), 0, []⟩,
⟨none, none, (.h (.store 4 (.tmp 8) (.tmp 35))), 0, []⟩])
(.seq
(.ops [⟨(some 36), none, (.p (.mv (.tmp 5))), 0, []⟩,
⟨(some 37), none, (.r (.load 4 true (.tmp 8))), 0, []⟩,
⟨(some 38), none, (.p (.mv (.tmp 6))), 0, []⟩,
⟨(some 39), none, (.h (.call (.c (.fn 32 [] [])) [(.tmp 36), (.tmp 37), (.tmp 38)])), 0, []⟩])
(.seq
(.ops [⟨(some 40), none, (.p (.fieldAt 0 (.tmp 8))), 0, []⟩,
⟨(some 41), none, (.r (.load 1 false (.tmp 40))), 0, []⟩,
⟨(some 42), none, (.p (.bin .eql (.tmp 41) (.c (.str [102, 117, 110, 99])))), 0, []⟩])
(.cond (.tmp 42)
(.ops [⟨(some 43), none, (.p (.mv (.tmp 6))), 0, []⟩,
⟨(some 44), none, (.p (.bin .add (.tmp 43) (.c (.int .i64 1)))), 0, []⟩,
⟨(some 6), none, (.p (.mv (.tmp 44))), 0, []⟩])
.skip)))))
(.ops [⟨(some 45), none, (.p (.bin .add (.tmp 32) (.c (.int .i64 1)))), 0, []⟩,
⟨(some 32), none, (.p (.mv (.tmp 45))), 0, []⟩])))))))
(.seq
(.seq
(.ops [⟨(some 46), none, (.p (.mv (.tmp 5))), 0, []⟩,
⟨(some 47), none, (.p (.nilchk (.tmp 46))), 0, []⟩,
⟨(some 48), none, (.p (.fieldAt 5 (.tmp 47))), 0, []⟩,
⟨(some 49), none, (.r (.load 1 false (.tmp 48))), 0, []⟩,
⟨(some 50), none, (.p (.bin .neq (.tmp 49) (.c (.int .i64 0)))), 0, []⟩])
(.cond (.tmp 50)
(.seq
(.draw [⟨(some 51), none, (.p (.mv (.tmp 5))), 0, []⟩,
⟨(some 52), none, (.p (.nilchk (.tmp 51))), 1, []⟩,
⟨(some 53), none, (.p (.fieldAt 4 (.tmp 52))), 2, []⟩,
⟨(some 54), none, (.r (.load 1 false (.tmp 53))), 3, []⟩,
⟨(some 55), none, (.p (.mv (.tmp 5))), 4, []⟩,
⟨(some 56), none, (.p (.nilchk (.tmp 55))), 5, []⟩,
⟨(some 57), none, (.p (.fieldAt 5 (.tmp 56))), 6, []⟩,
⟨(some 58), none, (.r (.load 1 false (.tmp 57))), 7, []⟩,
⟨(some 2), none, (.p (.mv (.c .nilptr))), 8, []⟩,
⟨(some 3), none, (.p (.mv (.tmp 54))), 9, []⟩,
⟨(some 4), none, (.p (.mv (.tmp 58))), 10, []⟩])
.ret)
.skip))
(.seq
(.seq
(.ops [⟨(some 59), none, (.p (.mv (.tmp 5))), 0, []⟩,
⟨(some 60), none, (.p (.nilchk (.tmp 59))), 0, []⟩,
⟨(some 61), none, (.p (.fieldAt 1 (.tmp 60))), 0, []⟩,
⟨(some 62), none, (.r (.load 1 false (.tmp 61))), 0, []⟩,
⟨(some 63), none, (.p (.nilchk (.tmp 62))), 0, []⟩,
⟨(some 64), none, (.p (.fieldAt 0 (.tmp 63))), 0, []⟩,
⟨(some 65), none, (.r (.load 1 false (.tmp 64))), 0, []⟩,
⟨(some 66), none, (.p (.lenSl (.tmp 65))), 0, []⟩,
⟨(some 67), none, (.p (.mv (.c (.int .i64 0)))), 0, []⟩])
(.block 2 (.loop (.seq
(.ops [⟨(some 68), none, (.p (.bin .lss (.tmp 67) (.tmp 66))), 0, []⟩])
(.seq
(.cond (.tmp 68)
.skip
(.exit 2))
(.seq
(.block 3 (.seq
(.ops [⟨(some 69), none, (.p (.mv (.tmp 67))), 0, []⟩,
⟨(some 70), none, (.p (.idxSl 7 (.tmp 65) (.tmp 67))), 0, []⟩,
⟨(some 71), none, (.r (.load 7 true (.tmp 70))), 0, []⟩,
⟨(some 10), none, (.a (.alloc [(.str []), .nilsl, .nilsl, (.str []), (.str []), (.int .i64 0), .nilsl])), 0, []⟩,
⟨(some 9), none, (.p (.mv (.tmp 69))), 0, []⟩,
⟨none, none, (.h (.store 7 (.tmp 10) (.tmp 71))), 0, []⟩])
(.seq
(.ops [⟨(some 72), none, (.p (.fieldAt 1 (.tmp 10))), 0, []⟩,
⟨(some 73), none, (.r (.load 1 false (.tmp 72))), 0, []⟩,
⟨(some 74), none, (.p (.lenSl (.tmp 73))), 0, []⟩,
⟨(some 75), none, (.p (.mv (.c (.int .i64 0)))), 0, []⟩])
(.block 4 (.loop (.seq
(.ops [⟨(some 76), none, (.p (.bin .lss (.tmp 75) (.tmp 74))), 0, []⟩])
(.seq
(.cond (.tmp 76)
.skip
(.exit 4))
(.seq
(.block 5 (.seq
(.ops [⟨(some 77), none, (.p (.idxSl 1 (.tmp 73) (.tmp 75))), 0, []⟩,
⟨(some 78), none, (.r (.load 1 false (.tmp 77))), 0, []⟩,
⟨(some 12), none, (.p (.mv (.tmp 78))), 0, []⟩])
(.draw [⟨(some 79), none, (.p (.mv (.tmp 5))), 0, []⟩,
⟨(some 80), none, (.p (.nilchk (.tmp 79))), 1, []⟩,
⟨(some 81), none, (.p (.fieldAt 1 (.tmp 80))), 2, []⟩,
⟨(some 82), none, (.r (.load 1 false (.tmp 81))), 3, []⟩,
⟨(some 83), none, (.p (.nilchk (.tmp 82))), 4, []⟩,
⟨(some 84), none, (.p (.fieldAt 0 (.tmp 83))), 5, []⟩,
⟨(some 85), none, (.r (.load 1 false (.tmp 84))), 6, []⟩,
⟨(some 86), none, (.p (.mv (.tmp 9))), 7, []⟩,
⟨(some 87), none, (.p (.mv (.tmp 5))), 8, []⟩,
⟨(some 88), none, (.p (.nilchk (.tmp 87))), 9, []⟩,
⟨(some 89), none, (.p (.fieldAt 1 (.tmp 88))), 10, []⟩,
⟨(some 90), none, (.r (.load 1 false (.tmp 89))), 11, []⟩,
⟨(some 91), none, (.p (.nilchk (.tmp 90))), 12, []⟩,
⟨(some 92), none, (.p (.fieldAt 0 (.tmp 91))), 13, []⟩,
⟨(some 93), none, (.r (.load 1 false (.tmp 92))), 14, []⟩,
⟨(some 94), none, (.p (.mv (.tmp 9))), 15, []⟩,
⟨(some 95), none, (.p (.idxSl 7 (.tmp 93) (.tmp 94))), 16, []⟩,
⟨(some 96), none, (.p (.fieldAt 2 (.tmp 95))), 17, []⟩,
⟨(some 97), none, (.r (.load 1 false (.tmp 96))), 18, []⟩,
⟨(some 98), none, (.p (.mv (.tmp 5))), 19, []⟩,
⟨(some 99), none, (.p (.nilchk (.tmp 98))), 20, []⟩,
⟨(some 100), none, (.p (.fieldAt 2 (.tmp 99))), 21, []⟩,
⟨(some 101), none, (.r (.load 1 false (.tmp 100))), 22, []⟩,
⟨(some 102), none, (.p (.mv (.tmp 9))), 23, []⟩,
⟨(some 103), none, (.p (.mv (.tmp 12))), 24, []⟩,
⟨(some 104), none, (.p (.build [(.int .i64 0), (.str [])] [(0, (1, (.tmp 102))), (1, (1, (.tmp 103)))])), 25, []⟩,
⟨(some 105), none, (.r (.lookup (.agg [.int, .str]) (.bool false) false (.tmp 101) (.tmp 104))), 26, []⟩,
⟨(some 106), none, (.a (.mkSl [(.bool false)] 1 1 [(0, (1, (.tmp 105)))])), 27, []⟩,
⟨(some 107), none, (.h (.app 1 2 (.tmp 97) (.tmp 106))), 28, [3, 6]⟩,
⟨(some 108), none, (.p (.idxSl 7 (.tmp 85) (.tmp 86))), 29, []⟩,
⟨(some 109), none, (.p (.fieldAt 2 (.tmp 108))), 30, []⟩,
⟨none, none, (.h (.store 1 (.tmp 109) (.tmp 107))), 31, []⟩])))
(.ops [⟨(some 110), none, (.p (.bin .add (.tmp 75) (.c (.int .i64 1)))), 0, []⟩,
⟨(some 75), none, (.p (.mv (.tmp 110))), 0, []⟩])))))))))
(.ops [⟨(some 111), none, (.p (.bin .add (.tmp 67) (.c (.int .i64 1)))), 0, []⟩,
⟨(some 67), none, (.p (.mv (.tmp 111))), 0, []⟩])))))))
(.seq
(.draw [⟨(some 112), none, (.p (.mv (.tmp 5))), 0, []⟩,
⟨(some 113), none, (.p (.nilchk (.tmp 112))), 1, []⟩,
⟨(some 114), none, (.p (.fieldAt 1 (.tmp 113))), 2, []⟩,
⟨(some 115), none, (.r (.load 1 false (.tmp 114))), 3, []⟩,
⟨(some 116), none, (.p (.mv (.tmp 5))), 4, []⟩,
⟨(some 117), none, (.p (.nilchk (.tmp 116))), 5, []⟩,
⟨(some 118), none, (.p (.fieldAt 3 (.tmp 117))), 6, []⟩,
⟨(some 119), none, (.r (.load 1 false (.tmp 118))), 7, []⟩,
⟨(some 120), none, (.p (.nilchk (.tmp 115))), 8, []⟩,
⟨(some 121), none, (.p (.fieldAt 1 (.tmp 120))), 9, []⟩,
⟨none, none, (.h (.store 1 (.tmp 121) (.tmp 119))), 10, []⟩])
(.seq
(.seq
(.ops [⟨(some 122), none, (.p (.mv (.tmp 5))), 0, []⟩,
⟨(some 123), none, (.p (.nilchk (.tmp 122))), 0, []⟩,
⟨(some 124), none, (.p (.fieldAt 3 (.tmp 123))), 0, []⟩,
⟨(some 125), none, (.r (.load 1 false (.tmp 124))), 0, []⟩,
⟨(some 126), none, (.p (.lenSl (.tmp 125))), 0, []⟩,
⟨(some 127), none, (.p (.mv (.c (.int .i64 0)))), 0, []⟩])
(.block 6 (.loop (.seq
(.ops [⟨(some 128), none, (.p (.bin .lss (.tmp 127) (.tmp 126))), 0, []⟩])
(.seq
(.cond (.tmp 128)
.skip
(.exit 6))
(.seq
(.block 7 (.seq
(.ops [⟨(some 129), none, (.p (.idxSl 1 (.tmp 125) (.tmp 127))), 0, []⟩,
⟨(some 130), none, (.r (.load 1 false (.tmp 129))), 0, []⟩,
⟨(some 14), none, (.p (.mv (.tmp 130))), 0, []⟩])
(.draw [⟨(some 131), none, (.p (.mv (.tmp 5))), 0, []⟩,
⟨(some 132), none, (.p (.nilchk (.tmp 131))), 1, []⟩,
⟨(some 133), none, (.p (.fieldAt 1 (.tmp 132))), 2, []⟩,
⟨(some 134), none, (.r (.load 1 false (.tmp 133))), 3, []⟩,
⟨(some 135), none, (.p (.mv (.tmp 5))), 4, []⟩,
⟨(some 136), none, (.p (.nilchk (.tmp 135))), 5, []⟩,
⟨(some 137), none, (.p (.fieldAt 1 (.tmp 136))), 6, []⟩,
⟨(some 138), none, (.r (.load 1 false (.tmp 137))), 7, []⟩,
⟨(some 139), none, (.p (.nilchk (.tmp 138))), 8, []⟩,
⟨(some 140), none, (.p (.fieldAt 2 (.tmp 139))), 9, []⟩,
⟨(some 141), none, (.r (.load 1 false (.tmp 140))), 10, []⟩,
⟨(some 142), none, (.p (.mv (.tmp 5))), 11, []⟩,
⟨(some 143), none, (.p (.nilchk (.tmp 142))), 12, []⟩,
⟨(some 144), none, (.p (.fieldAt 2 (.tmp 143))), 13, []⟩,
⟨(some 145), none, (.r (.load 1 false (.tmp 144))), 14, []⟩,
⟨(some 146), none, (.p (.mv (.tmp 14))), 15, []⟩,
⟨(some 147), none, (.p (.build [(.int .i64 0), (.str [])] [(0, (1, (.c (.int .i64 (-1))))), (1, (1, (.tmp 146)))])), 16, []⟩,
⟨(some 148), none, (.r (.lookup (.agg [.int, .str]) (.bool false) false (.tmp 145) (.tmp 147))), 17, []⟩,
⟨(some 149), none, (.a (.mkSl [(.bool false)] 1 1 [(0, (1, (.tmp 148)))])), 18, []⟩,
⟨(some 150), none, (.h (.app 1 2 (.tmp 141) (.tmp 149))), 19, [3]⟩,
⟨(some 151), none, (.p (.nilchk (.tmp 134))), 20, []⟩,
⟨(some 152), none, (.p (.fieldAt 2 (.tmp 151))), 21, []⟩,
⟨none, none, (.h (.store 1 (.tmp 152) (.tmp 150))), 22, []⟩])))
(.ops [⟨(some 153), none, (.p (.bin .add (.tmp 127) (.c (.int .i64 1)))), 0, []⟩,
⟨(some 127), none, (.p (.mv (.tmp 153))), 0, []⟩])))))))
(.seq
(.ops [⟨(some 154), none, (.p (.mv (.tmp 5))), 0, []⟩,
⟨(some 155), none, (.p (.nilchk (.tmp 154))), 0, []⟩,
⟨(some 156), none, (.p (.fieldAt 1 (.tmp 155))), 0, []⟩,
⟨(some 157), none, (.r (.load 1 false (.tmp 156))), 0, []⟩,
⟨(some 2), none, (.p (.mv (.tmp 157))), 0, []⟩,
⟨(some 3), none, (.p (.mv (.c (.int .i64 0)))), 0, []⟩,
⟨(some 4), none, (.p (.mv (.c (.int .i64 0)))), 0, []⟩])
.ret)))))))))))⟩
theorem c16 : Mir.compF Tryz.prog Tryz.f16 = some g16 := by kernel_rfl
/-- scribe/ast.All -/
def g17 : Mir.Fn := ⟨4, [(.tmp 2)],
(.seq
(.ops [⟨(some 1), none, (.a (.box (.tmp 0))), 0, []⟩,
⟨(some 2), none, (.p (.mv (.c .nilfn))), 0, []⟩])
(.seq
(.ops [⟨(some 3), none, (.p (.mkFn 33 [] [(.tmp 1)])), 0, []⟩,
⟨(some 2), none, (.p (.mv (.tmp 3))), 0, []⟩])
.ret))⟩
theorem c17 : Mir.compF Tryz.prog Tryz.f17 = some g17 := by kernel_rfl
/-- scribe/scribelaw14.texts -/
def g18 : Mir.Fn := ⟨26, [(.tmp 4)],
(.seq
(.ops [⟨(some 4), none, (.p (.mv (.c (.bool false)))), 0, []⟩])
(.seq
(.seq
(.ops [⟨(some 6), none, (.p (.mv (.tmp 0))), 0, []⟩,
⟨(some 7), none, (.p (.lenSl (.tmp 6))), 0, []⟩,
⟨(some 8), none, (.p (.mv (.tmp 1))), 0, []⟩,
⟨(some 9), none, (.p (.lenSl (.tmp 8))), 0, []⟩,
⟨(some 10), none, (.p (.bin .neq (.tmp 7) (.tmp 9))), 0, []⟩])
(.cond (.tmp 10)
(.seq
(.ops [⟨(some 4), none, (.p (.mv (.c (.bool false)))), 0, []⟩])
.ret)
.skip))
(.seq
(.seq
(.ops [⟨(some 11), none, (.p (.mv (.tmp 0))), 0, []⟩,
⟨(some 12), none, (.p (.lenSl (.tmp 11))), 0, []⟩,
⟨(some 13), none, (.p (.mv (.c (.int .i64 0)))), 0, []⟩])
(.block 0 (.loop (.seq
(.ops [⟨(some 14), none, (.p (.bin .lss (.tmp 13) (.tmp 12))), 0, []⟩])
(.seq
(.cond (.tmp 14)
.skip
(.exit 0))
(.seq
(.block 1 (.seq
(.ops [⟨(some 15), none, (.p (.mv (.tmp 13))), 0, []⟩,
⟨(some 5), none, (.p (.mv (.tmp 15))), 0, []⟩])
(.seq
(.draw [⟨(some 16), none, (.p (.mv (.tmp 0))), 0, []⟩,
⟨(some 17), none, (.p (.mv (.tmp 5))), 1, []⟩,
⟨(some 18), none, (.p (.idxSl 1 (.tmp 16) (.tmp 17))), 2, []⟩,
⟨(some 19), none, (.r (.load 1 false (.tmp 18))), 3, []⟩,
⟨(some 20), none, (.p (.mv (.tmp 1))), 4, []⟩,
⟨(some 21), none, (.p (.mv (.tmp 5))), 5, []⟩,
⟨(some 22), none, (.p (.idxSl 1 (.tmp 20) (.tmp 21))), 6, []⟩,
⟨(some 23), none, (.r (.load 1 false (.tmp 22))), 7, []⟩,
⟨(some 24), none, (.p (.bin .neq (.tmp 19) (.tmp 23))), 8, []⟩])
(.cond (.tmp 24)
(.seq
(.ops [⟨(some 4), none, (.p (.mv (.c (.bool false)))), 0, []⟩])
.ret)
.skip))))
(.ops [⟨(some 25), none, (.p (.bin .add (.tmp 13) (.c (.int .i64 1)))), 0, []⟩,
⟨(some 13), none, (.p (.mv (.tmp 25))), 0, []⟩])))))))
(.seq
(.ops [⟨(some 4), none, (.p (.mv (.c (.bool true)))), 0, []⟩])
.ret))))⟩
theorem c18 : Mir.compF Tryz.prog Tryz.f18 = some g18 := by kernel_rfl
/-- scribe/scribelaw14.bools -/
def g19 : Mir.Fn := ⟨26, [(.tmp 4)],
(.seq
(.ops [⟨(some 4), none, (.p (.mv (.c (.bool false)))), 0, []⟩])
(.seq
(.seq
(.ops [⟨(some 6), none, (.p (.mv (.tmp 0))), 0, []⟩,
⟨(some 7), none, (.p (.lenSl (.tmp 6))), 0, []⟩,
⟨(some 8), none, (.p (.mv (.tmp 1))), 0, []⟩,
⟨(some 9), none, (.p (.lenSl (.tmp 8))), 0, []⟩,
⟨(some 10), none, (.p (.bin .neq (.tmp 7) (.tmp 9))), 0, []⟩])
(.cond (.tmp 10)
(.seq
(.ops [⟨(some 4), none, (.p (.mv (.c (.bool false)))), 0, []⟩])
.ret)
.skip))
(.seq
(.seq
(.ops [⟨(some 11), none, (.p (.mv (.tmp 0))), 0, []⟩,
⟨(some 12), none, (.p (.lenSl (.tmp 11))), 0, []⟩,
⟨(some 13), none, (.p (.mv (.c (.int .i64 0)))), 0, []⟩])
(.block 0 (.loop (.seq
(.ops [⟨(some 14), none, (.p (.bin .lss (.tmp 13) (.tmp 12))), 0, []⟩])
(.seq
(.cond (.tmp 14)
.skip
(.exit 0))
(.seq
(.block 1 (.seq
(.ops [⟨(some 15), none, (.p (.mv (.tmp 13))), 0, []⟩,
⟨(some 5), none, (.p (.mv (.tmp 15))), 0, []⟩])
(.seq
(.draw [⟨(some 16), none, (.p (.mv (.tmp 0))), 0, []⟩,
⟨(some 17), none, (.p (.mv (.tmp 5))), 1, []⟩,
⟨(some 18), none, (.p (.idxSl 1 (.tmp 16) (.tmp 17))), 2, []⟩,
⟨(some 19), none, (.r (.load 1 false (.tmp 18))), 3, []⟩,
⟨(some 20), none, (.p (.mv (.tmp 1))), 4, []⟩,
⟨(some 21), none, (.p (.mv (.tmp 5))), 5, []⟩,
⟨(some 22), none, (.p (.idxSl 1 (.tmp 20) (.tmp 21))), 6, []⟩,
⟨(some 23), none, (.r (.load 1 false (.tmp 22))), 7, []⟩,
⟨(some 24), none, (.p (.eq .bool true (.tmp 19) (.tmp 23))), 8, []⟩])
(.cond (.tmp 24)
(.seq
(.ops [⟨(some 4), none, (.p (.mv (.c (.bool false)))), 0, []⟩])
.ret)
.skip))))
(.ops [⟨(some 25), none, (.p (.bin .add (.tmp 13) (.c (.int .i64 1)))), 0, []⟩,
⟨(some 13), none, (.p (.mv (.tmp 25))), 0, []⟩])))))))
(.seq
(.ops [⟨(some 4), none, (.p (.mv (.c (.bool true)))), 0, []⟩])
.ret))))⟩
theorem c19 : Mir.compF Tryz.prog Tryz.f19 = some g19 := by kernel_rfl
/-- scribe/scribelaw14.of -/
def g20 : Mir.Fn := ⟨28, [(.tmp 2), (.tmp 3), (.tmp 4)],
(.seq
(.ops [⟨(some 2), none, (.p (.mv (.c .nilptr))), 0, []⟩,
⟨(some 3), none, (.p (.mv (.c (.int .i64 0)))), 0, []⟩,
⟨(some 4), none, (.p (.mv (.c (.int .i64 0)))), 0, []⟩])
(.seq
(.ops [⟨(some 9), none, (.p (.mv (.tmp 0))), 0, []⟩,
⟨(some 10), none, (.h (.call (.c (.fn 14 [] [])) [(.tmp 9)])), 0, []⟩,
⟨(some 8), none, (.p (.mv (.tmp 10))), 0, []⟩,
⟨(some 11), none, (.p (.ext (.tmp 8) 0)), 0, []⟩,
⟨(some 12), none, (.p (.ext (.tmp 8) 1)), 0, []⟩,
⟨(some 13), none, (.p (.ext (.tmp 8) 2)), 0, []⟩,
⟨(some 5), none, (.a (.alloc [(.str []), (.str []), (.int .i64 0), .nilsl])), 0, []⟩,
⟨none, none, (.h (.store 4 (.tmp 5) (.tmp 11))), 0, []⟩,
⟨(some 6), none, (.p (.mv (.tmp 12))), 0, []⟩,
⟨(some 7), none, (.p (.mv (.tmp 13))), 0, []⟩])
(.seq
(.seq
(.ops [⟨(some 14), none, (.p (.mv (.tmp 7))), 0, []⟩,
⟨(some 15), none, (.p (.bin .neq (.tmp 14) (.c (.int .i64 0)))), 0, []⟩,
⟨(some 16), none, (.p (.mv (.tmp 15))), 0, []⟩,
⟨(some 17), (some (16, false)), (.p (.fieldAt 0 (.tmp 5))), 0, []⟩,
⟨(some 18), (some (16, false)), (.r (.load 1 false (.tmp 17))), 0, []⟩,
⟨(some 19), (some (16, false)), (.p (.bin .neq (.tmp 18) (.c (.str [112, 114, 111, 103, 114, 97, 109])))), 0, []⟩,
⟨(some 20), none, (.p (.pick (.tmp 16) (.c (.bool true)) (.tmp 19))), 0, []⟩])
(.cond (.tmp 20)
(.seq
(.ops [⟨(some 21), none, (.p (.mv (.tmp 6))), 0, []⟩,
⟨(some 22), none, (.p (.mv (.tmp 7))), 0, []⟩,
⟨(some 2), none, (.p (.mv (.c .nilptr))), 0, []⟩,
⟨(some 3), none, (.p (.mv (.tmp 21))), 0, []⟩,
⟨(some 4), none, (.p (.mv (.tmp 22))), 0, []⟩])
.ret)
.skip))
(.seq
(.ops [⟨(some 23), none, (.r (.load 4 true (.tmp 5))), 0, []⟩,
⟨(some 24), none, (.h (.call (.c (.fn 16 [] [])) [(.tmp 23)])), 0, []⟩,
⟨(some 25), none, (.p (.ext (.tmp 24) 0)), 0, []⟩,
⟨(some 26), none, (.p (.ext (.tmp 24) 1)), 0, []⟩,
⟨(some 27), none, (.p (.ext (.tmp 24) 2)), 0, []⟩,
⟨(some 2), none, (.p (.mv (.tmp 25))), 0, []⟩,
⟨(some 3), none, (.p (.mv (.tmp 26))), 0, []⟩,
⟨(some 4), none, (.p (.mv (.tmp 27))), 0, []⟩])
.ret))))⟩
theorem c20 : Mir.compF Tryz.prog Tryz.f20 = some g20 := by kernel_rfl
/-- scribe/scribelaw13.awake -/
def g21 : Mir.Fn := ⟨32, [(.tmp 0)],
(.seq
(.ops [⟨(some 0), none, (.p (.mv (.c (.bool false)))), 0, []⟩])
(.seq
(.ops [⟨(some 8), none, (.h (.call (.c (.fn 14 [] [])) [(.c (.str [66, 69, 71, 73, 78, 123, 120, 61, 97, 32, 98, 43, 49, 125]))])), 0, []⟩,
⟨(some 7), none, (.p (.mv (.tmp 8))), 0, []⟩,
⟨(some 9), none, (.p (.ext (.tmp 7) 0)), 0, []⟩,
⟨(some 10), none, (.p (.ext (.tmp 7) 1)), 0, []⟩,
⟨(some 11), none, (.p (.ext (.tmp 7) 2)), 0, []⟩,
⟨(some 1), none, (.a (.alloc [(.str []), (.str []), (.int .i64 0), .nilsl])), 0, []⟩,
⟨none, none, (.h (.store 4 (.tmp 1) (.tmp 9))), 0, []⟩,
⟨(some 2), none, (.p (.mv (.tmp 10))), 0, []⟩,
⟨(some 3), none, (.p (.mv (.tmp 11))), 0, []⟩])
(.seq
(.ops [⟨(some 13), none, (.h (.call (.c (.fn 14 [] [])) [(.c (.str [66, 69, 71, 73, 78, 123, 120, 61, 125]))])), 0, []⟩,
⟨(some 12), none, (.p (.mv (.tmp 13))), 0, []⟩,
⟨(some 14), none, (.p (.ext (.tmp 12) 0)), 0, []⟩,
⟨(some 15), none, (.p (.ext (.tmp 12) 1)), 0, []⟩,
⟨(some 16), none, (.p (.ext (.tmp 12) 2)), 0, []⟩,
⟨(some 4), none, (.a (.alloc [(.str []), (.str []), (.int .i64 0), .nilsl])), 0, []⟩,
⟨none, none, (.h (.store 4 (.tmp 4) (.tmp 14))), 0, []⟩,
⟨(some 5), none, (.p (.mv (.tmp 15))), 0, []⟩,
⟨(some 6), none, (.p (.mv (.tmp 16))), 0, []⟩])
(.seq
(.ops [⟨(some 17), none, (.p (.mv (.tmp 3))), 0, []⟩,
⟨(some 18), none, (.p (.bin .eql (.tmp 17) (.c (.int .i64 0)))), 0, []⟩,
⟨(some 19), none, (.p (.mv (.tmp 18))), 0, []⟩,
⟨(some 20), (some (19, true)), (.r (.load 4 true (.tmp 1))), 0, []⟩,
⟨(some 21), (some (19, true)), (.h (.call (.c (.fn 35 [] [])) [(.tmp 20)])), 0, []⟩,
⟨(some 22), (some (19, true)), (.p (.bin .eql (.tmp 21) (.c (.str [40, 112, 114, 111, 103, 114, 97, 109, 32, 40, 98, 101, 103, 105, 110, 32, 40, 98, 108, 111, 99, 107, 32, 40, 101, 120, 112, 114, 32, 40, 97, 115, 115, 105, 103, 110, 32, 49, 58, 61, 32, 40, 118, 97, 114, 32, 49, 58, 120, 41, 32, 40, 99, 97, 116, 32, 40, 118, 97, 114, 32, 49, 58, 97, 41, 32, 40, 97, 100, 100, 32, 40, 118, 97, 114, 32, 49, 58, 98, 41, 32, 40, 110, 117, 109, 32, 49, 58, 49, 41, 41, 41, 41, 41, 41, 41, 41])))), 0, []⟩,
⟨(some 23), none, (.p (.pick (.tmp 19) (.tmp 22) (.c (.bool false)))), 0, []⟩,
⟨(some 24), none, (.p (.mv (.tmp 23))), 0, []⟩,
⟨(some 25), (some (24, true)), (.p (.mv (.tmp 6))), 0, []⟩,
⟨(some 26), (some (24, true)), (.p (.bin .eql (.tmp 25) (.c (.int .i64 9)))), 0, []⟩,
⟨(some 27), none, (.p (.pick (.tmp 24) (.tmp 26) (.c (.bool false)))), 0, []⟩,
⟨(some 28), none, (.p (.mv (.tmp 27))), 0, []⟩,
⟨(some 29), (some (28, true)), (.p (.mv (.tmp 5))), 0, []⟩,
⟨(some 30), (some (28, true)), (.p (.bin .eql (.tmp 29) (.c (.int .i64 8)))), 0, []⟩,
⟨(some 31), none, (.p (.pick (.tmp 28) (.tmp 30) (.c (.bool false)))), 0, []⟩,
⟨(some 0), none, (.p (.mv (.tmp 31))), 0, []⟩])
.ret))))⟩
theorem c21 : Mir.compF Tryz.prog Tryz.f21 = some g21 := by kernel_rfl
/-- scribe/ast.Same -/
def g22 : Mir.Fn := ⟨24, [(.tmp 4)],
(.seq
(.ops [⟨(some 2), none, (.a (.box (.tmp 0))), 0, []⟩,
⟨(some 3), none, (.a (.box (.tmp 1))), 0, []⟩,
⟨(some 4), none, (.p (.mv (.c (.bool false)))), 0, []⟩])
(.seq
(.ops [⟨(some 5), none, (.p (.fieldAt 0 (.tmp 2))), 0, []⟩,
⟨(some 6), none, (.r (.load 1 false (.tmp 5))), 0, []⟩,
⟨(some 7), none, (.p (.fieldAt 0 (.tmp 3))), 0, []⟩,
⟨(some 8), none, (.r (.load 1 false (.tmp 7))), 0, []⟩,
⟨(some 9), none, (.p (.bin .eql (.tmp 6) (.tmp 8))), 0, []⟩,
⟨(some 10), none, (.p (.mv (.tmp 9))), 0, []⟩,
⟨(some 11), (some (10, true)), (.p (.fieldAt 1 (.tmp 2))), 0, []⟩,
⟨(some 12), (some (10, true)), (.r (.load 1 false (.tmp 11))), 0, []⟩,
⟨(some 13), (some (10, true)), (.p (.fieldAt 1 (.tmp 3))), 0, []⟩,
⟨(some 14), (some (10, true)), (.r (.load 1 false (.tmp 13))), 0, []⟩,
⟨(some 15), (some (10, true)), (.p (.bin .eql (.tmp 12) (.tmp 14))), 0, []⟩,
⟨(some 16), none, (.p (.pick (.tmp 10) (.tmp 15) (.c (.bool false)))), 0, []⟩,
⟨(some 17), none, (.p (.mv (.tmp 16))), 0, []⟩,
⟨(some 18), (some (17, true)), (.p (.fieldAt 3 (.tmp 2))), 0, []⟩,
⟨(some 19), (some (17, true)), (.r (.load 1 false (.tmp 18))), 0, []⟩,
⟨(some 20), (some (17, true)), (.p (.fieldAt 3 (.tmp 3))), 0, []⟩,
⟨(some 21), (some (17, true)), (.r (.load 1 false (.tmp 20))), 0, []⟩,
⟨(some 22), (some (17, true)), (.h (.call (.c (.fn 36 [] [])) [(.tmp 19), (.tmp 21), (.c (.fn 22 [] []))])), 0, []⟩,
⟨(some 23), none, (.p (.pick (.tmp 17) (.tmp 22) (.c (.bool false)))), 0, []⟩,
⟨(some 4), none, (.p (.mv (.tmp 23))), 0, []⟩])
.ret))⟩
theorem c22 : Mir.compF Tryz.prog Tryz.f22 = some g22 := by kernel_rfl
/-- scribe/scribelaw13.variable -/
def g23 : Mir.Fn := ⟨5, [(.cell 2 4 true)],
(.seq
(.ops [⟨(some 2), none, (.a (.alloc [(.str []), (.str []), (.int .i64 0), .nilsl])), 0, []⟩])
(.seq
(.ops [⟨(some 3), none, (.p (.mv (.tmp 0))), 0, []⟩,
⟨(some 4), none, (.p (.build [(.str []), (.str []), (.int .i64 0), .nilsl] [(0, (1, (.c (.str [118, 97, 114])))), (1, (1, (.tmp 3)))])), 0, []⟩,
⟨none, none, (.h (.store 4 (.tmp 2) (.tmp 4))), 0, []⟩])
.ret))⟩
theorem c23 : Mir.compF Tryz.prog Tryz.f23 = some g23 := by kernel_rfl
/-- scribe/lex.Lex -/
def g24 : Mir.Fn := ⟨39, [(.tmp 2), (.tmp 3), (.tmp 4)],
(.seq
(.ops [⟨(some 2), none, (.p (.mv (.c .nilsl))), 0, []⟩,
⟨(some 3), none, (.p (.mv (.c (.int .i64 0)))), 0, []⟩,
⟨(some 4), none, (.p (.mv (.c (.int .i64 0)))), 0, []⟩])
(.seq
(.seq
(.ops [⟨(some 7), none, (.p (.mv (.tmp 0))), 0, []⟩,
⟨(some 8), none, (.p (.lenStr (.tmp 7))), 0, []⟩,
⟨(some 9), none, (.p (.bin .gtr (.tmp 8) (.c (.int .i64 4000)))), 0, []⟩])
(.cond (.tmp 9)
(.seq
(.ops [⟨(some 2), none, (.p (.mv (.c .nilsl))), 0, []⟩,
⟨(some 3), none, (.p (.mv (.c (.int .i64 0)))), 0, []⟩,
⟨(some 4), none, (.p (.mv (.c (.int .i64 12)))), 0, []⟩])
.ret)
.skip))
(.seq
(.ops [⟨(some 10), none, (.p (.mv (.tmp 0))), 0, []⟩,
⟨(some 11), none, (.p (.build [(.str []), (.int .i64 0), .nilsl] [(0, (1, (.tmp 10)))])), 0, []⟩,
⟨(some 12), none, (.a (.box (.tmp 11))), 0, []⟩,
⟨(some 5), none, (.p (.mv (.tmp 12))), 0, []⟩])
(.seq
(.block 0 (.loop (.seq
(.seq
(.ops [⟨(some 13), none, (.p (.mv (.tmp 5))), 0, []⟩,
⟨(some 14), none, (.p (.nilchk (.tmp 13))), 0, []⟩,
⟨(some 15), none, (.p (.fieldAt 1 (.tmp 14))), 0, []⟩,
⟨(some 16), none, (.r (.load 1 false (.tmp 15))), 0, []⟩,
⟨(some 17), none, (.p (.mv (.tmp 0))), 0, []⟩,
⟨(some 18), none, (.p (.lenStr (.tmp 17))), 0, []⟩,
⟨(some 19), none, (.p (.bin .lss (.tmp 16) (.tmp 18))), 0, []⟩])
(.cond (.tmp 19)
.skip
(.exit 0)))
(.block 1 (.seq
(.ops [⟨(some 20), none, (.p (.mv (.tmp 5))), 0, []⟩,
⟨(some 21), none, (.h (.call (.c (.fn 37 [] [])) [(.tmp 20)])), 0, []⟩,
⟨(some 6), none, (.p (.mv (.tmp 21))), 0, []⟩])
(.seq
(.ops [⟨(some 22), none, (.p (.mv (.tmp 6))), 0, []⟩,
⟨(some 23), none, (.p (.bin .neq (.tmp 22) (.c (.int .i64 0)))), 0, []⟩])
(.cond (.tmp 23)
(.seq
(.draw [⟨(some 24), none, (.p (.mv (.tmp 5))), 0, []⟩,
⟨(some 25), none, (.p (.nilchk (.tmp 24))), 1, []⟩,
⟨(some 26), none, (.p (.fieldAt 1 (.tmp 25))), 2, []⟩,
⟨(some 27), none, (.r (.load 1 false (.tmp 26))), 3, []⟩,
⟨(some 28), none, (.p (.mv (.tmp 6))), 4, []⟩,
⟨(some 2), none, (.p (.mv (.c .nilsl))), 5, []⟩,
⟨(some 3), none, (.p (.mv (.tmp 27))), 6, []⟩,
⟨(some 4), none, (.p (.mv (.tmp 28))), 7, []⟩])
.ret)
.skip)))))))
(.seq
(.ops [⟨(some 29), none, (.p (.mv (.tmp 5))), 0, []⟩,
⟨(some 30), none, (.p (.mv (.tmp 5))), 0, []⟩,
⟨(some 31), none, (.p (.nilchk (.tmp 30))), 0, []⟩,
⟨(some 32), none, (.p (.fieldAt 1 (.tmp 31))), 0, []⟩,
⟨(some 33), none, (.r (.load 1 false (.tmp 32))), 0, []⟩,
⟨(some 34), none, (.h (.call (.c (.fn 38 [] [])) [(.tmp 29), (.c (.int .i64 0)), (.c (.str [])), (.tmp 33)])), 0, []⟩])
(.seq
(.ops [⟨(some 35), none, (.p (.mv (.tmp 5))), 0, []⟩,
⟨(some 36), none, (.p (.nilchk (.tmp 35))), 0, []⟩,
⟨(some 37), none, (.p (.fieldAt 2 (.tmp 36))), 0, []⟩,
⟨(some 38), none, (.r (.load 1 false (.tmp 37))), 0, []⟩,
⟨(some 2), none, (.p (.mv (.tmp 38))), 0, []⟩,
⟨(some 3), none, (.p (.mv (.c (.int .i64 0)))), 0, []⟩,
⟨(some 4), none, (.p (.mv (.c (.int .i64 0)))), 0, []⟩])
.ret))))))⟩
theorem c24 : Mir.compF Tryz.prog Tryz.f24 = some g24 := by kernel_rfl
/-- scribe/parse.node -/
def g25 : Mir.Fn := ⟨8, [(.cell 4 4 true)],
(.seq
(.ops [⟨(some 4), none, (.a (.alloc [(.str []), (.str []), (.int .i64 0), .nilsl])), 0, []⟩])
(.seq
(.ops [⟨(some 5), none, (.p (.mv (.tmp 0))), 0, []⟩,
⟨(some 6), none, (.p (.mv (.tmp 1))), 0, []⟩,
⟨(some 7), none, (.p (.build [(.str []), (.str []), (.int .i64 0), .nilsl] [(0, (1, (.tmp 5))), (3, (1, (.tmp 6)))])), 0, []⟩,
⟨none, none, (.h (.store 4 (.tmp 4) (.tmp 7))), 0, []⟩])
.ret))⟩
theorem c25 : Mir.compF Tryz.prog Tryz.f25 = some g25 := by kernel_rfl
/-- (*scribe/parse.parser).at -/
def g26 : Mir.Fn := ⟨22, [(.tmp 4)],
(.seq
(.ops [⟨(some 4), none, (.p (.mv (.c (.bool false)))), 0, []⟩])
(.seq
(.ops [⟨(some 6), none, (.p (.mv (.tmp 0))), 0, []⟩,
⟨(some 7), none, (.h (.call (.c (.fn 27 [] [])) [(.tmp 6)])), 0, []⟩,
⟨(some 5), none, (.a (.alloc [(.int .i64 0), (.str []), (.int .i64 0)])), 0, []⟩,
⟨none, none, (.h (.store 3 (.tmp 5) (.tmp 7))), 0, []⟩])
(.seq
(.ops [⟨(some 8), none, (.p (.fieldAt 0 (.tmp 5))), 0, []⟩,
⟨(some 9), none, (.r (.load 1 false (.tmp 8))), 0, []⟩,
⟨(some 10), none, (.p (.bin .eql (.tmp 9) (.c (.int .i64 8)))), 0, []⟩,
⟨(some 11), none, (.p (.mv (.tmp 10))), 0, []⟩,
⟨(some 12), (some (11, false)), (.p (.fieldAt 0 (.tmp 5))), 0, []⟩,
⟨(some 13), (some (11, false)), (.r (.load 1 false (.tmp 12))), 0, []⟩,
⟨(some 14), (some (11, false)), (.p (.bin .eql (.tmp 13) (.c (.int .i64 7)))), 0, []⟩,
⟨(some 15), none, (.p (.pick (.tmp 11) (.c (.bool true)) (.tmp 14))), 0, []⟩,
⟨(some 16), none, (.p (.mv (.tmp 15))), 0, []⟩,
⟨(some 17), (some (16, true)), (.p (.mv (.tmp 1))), 0, []⟩,
⟨(some 18), (some (16, true)), (.p (.fieldAt 1 (.tmp 5))), 0, []⟩,
⟨(some 19), (some (16, true)), (.r (.load 1 false (.tmp 18))), 0, []⟩,
⟨(some 20), (some (16, true)), (.h (.call (.c (.fn 39 [] [])) [(.tmp 17), (.tmp 19)])), 0, []⟩,
⟨(some 21), none, (.p (.pick (.tmp 16) (.tmp 20) (.c (.bool false)))), 0, []⟩,
⟨(some 4), none, (.p (.mv (.tmp 21))), 0, []⟩])
.ret)))⟩
theorem c26 : Mir.compF Tryz.prog Tryz.f26 = some g26 := by kernel_rfl
/-- (*scribe/parse.parser).cur -/
def g27 : Mir.Fn := ⟨19, [(.cell 2 3 true)],
(.seq
(.ops [⟨(some 2), none, (.a (.alloc [(.int .i64 0), (.str []), (.int .i64 0)])), 0, []⟩])
(.seq
(.seq
(.ops [⟨(some 3), none, (.p (.mv (.tmp 0))), 0, []⟩,
⟨(some 4), none, (.p (.nilchk (.tmp 3))), 0, []⟩,
⟨(some 5), none, (.p (.fieldAt 4 (.tmp 4))), 0, []⟩,
⟨(some 6), none, (.r (.load 1 false (.tmp 5))), 0, []⟩,
⟨(some 7), none, (.p (.bin .neq (.tmp 6) (.c (.int .i64 0)))), 0, []⟩])
(.cond (.tmp 7)
(.seq
(.ops [⟨(some 8), none, (.p (.build [(.int .i64 0), (.str []), (.int .i64 0)] [])), 0, []⟩,
⟨none, none, (.h (.store 3 (.tmp 2) (.tmp 8))), 0, []⟩])
.ret)
.skip))
(.seq
(.draw [⟨(some 9), none, (.p (.mv (.tmp 0))), 0, []⟩,
⟨(some 10), none, (.p (.nilchk (.tmp 9))), 1, []⟩,
⟨(some 11), none, (.p (.fieldAt 0 (.tmp 10))), 2, []⟩,
⟨(some 12), none, (.r (.load 1 false (.tmp 11))), 3, []⟩,
⟨(some 13), none, (.p (.mv (.tmp 0))), 4, []⟩,
⟨(some 14), none, (.p (.nilchk (.tmp 13))), 5, []⟩,
⟨(some 15), none, (.p (.fieldAt 1 (.tmp 14))), 6, []⟩,
⟨(some 16), none, (.r (.load 1 false (.tmp 15))), 7, []⟩,
⟨(some 17), none, (.p (.idxSl 3 (.tmp 12) (.tmp 16))), 8, []⟩,
⟨(some 18), none, (.r (.load 3 true (.tmp 17))), 9, []⟩,
⟨none, none, (.h (.store 3 (.tmp 2) (.tmp 18))), 10, []⟩])
.ret)))⟩
theorem c27 : Mir.compF Tryz.prog Tryz.f27 = some g27 := by kernel_rfl
/-- (*scribe/parse.parser).step -/
def g28 : Mir.Fn := ⟨27, [],
(.seq
(.draw [⟨(some 2), none, (.p (.mv (.tmp 0))), 0, []⟩,
⟨(some 3), none, (.p (.nilchk (.tmp 2))), 1, []⟩,
⟨(some 4), none, (.p (.fieldAt 4 (.tmp 3))), 2, []⟩,
⟨(some 5), none, (.r (.load 1 false (.tmp 4))), 3, []⟩,
⟨(some 6), none, (.p (.bin .eql (.tmp 5) (.c (.int .i64 0)))), 4, []⟩,
⟨(some 7), none, (.p (.mv (.tmp 6))), 5, []⟩,
⟨(some 8), (some (7, true)), (.p (.mv (.tmp 0))), 6, []⟩,
⟨(some 9), (some (7, true)), (.p (.nilchk (.tmp 8))), 7, []⟩,
⟨(some 10), (some (7, true)), (.p (.fieldAt 1 (.tmp 9))), 8, []⟩,
⟨(some 11), (some (7, true)), (.r (.load 1 false (.tmp 10))), 9, []⟩,
⟨(some 12), (some (7, true)), (.p (.mv (.tmp 0))), 10, []⟩,
⟨(some 13), (some (7, true)), (.p (.nilchk (.tmp 12))), 11, []⟩,
⟨(some 14), (some (7, true)), (.p (.fieldAt 0 (.tmp 13))), 12, []⟩,
⟨(some 15), (some (7, true)), (.r (.load 1 false (.tmp 14))), 13, []⟩,
⟨(some 16), (some (7, true)), (.p (.lenSl (.tmp 15))), 14, []⟩,
⟨(some 17), (some (7, true)), (.p (.bin .sub (.tmp 16) (.c (.int .i64 1)))), 15, []⟩,
⟨(some 18), (some (7, true)), (.p (.bin .lss (.tmp 11) (.tmp 17))), 16, []⟩,
⟨(some 19), none, (.p (.pick (.tmp 7) (.tmp 18) (.c (.bool false)))), 17, []⟩])
(.cond (.tmp 19)
(.ops [⟨(some 20), none, (.p (.mv (.tmp 0))), 0, []⟩,
⟨(some 21), none, (.p (.nilchk (.tmp 20))), 0, []⟩,
⟨(some 22), none, (.p (.fieldAt 1 (.tmp 21))), 0, []⟩,
⟨(some 23), none, (.r (.load 1 false (.tmp 22))), 0, []⟩,
⟨(some 24), none, (.p (.bin .add (.tmp 23) (.c (.int .i64 1)))), 0, []⟩,
⟨(some 25), none, (.p (.nilchk (.tmp 20))), 0, []⟩,
⟨(some 26), none, (.p (.fieldAt 1 (.tmp 25))), 0, []⟩,
⟨none, none, (.h (.store 1 (.tmp 26) (.tmp 24))), 0, []⟩])
.skip))⟩
theorem c28 : Mir.compF Tryz.prog Tryz.f28 = some g28 := by kernel_rfl
/-- (*scribe/parse.parser).item -/
def g29 : Mir.Fn := ⟨122, [(.cell 2 4 true)],
(.seq
(.ops [⟨(some 2), none, (.a (.alloc [(.str []), (.str []), (.int .i64 0), .nilsl])), 0, []⟩])
(.seq
(.block 0 (.seq
(.ops [⟨(some 7), none, (.p (.mv (.tmp 0))), 0, []⟩,
⟨(some 8), none, (.h (.call (.c (.fn 40 [] [])) [(.tmp 7), (.c (.str [66, 69, 71, 73, 78]))])), 0, []⟩,
⟨(some 6), none, (.p (.mv (.tmp 8))), 0, []⟩])
(.cond (.tmp 6)
(.seq
(.ops [⟨(some 9), none, (.p (.mv (.tmp 0))), 0, []⟩,
⟨(some 10), none, (.h (.call (.c (.fn 41 [] [])) [(.tmp 9)])), 0, []⟩,
⟨(some 11), none, (.a (.mkSl [(.str []), (.str []), (.int .i64 0), .nilsl] 4 1 [(0, (4, (.tmp 10)))])), 0, []⟩,
⟨(some 12), none, (.h (.call (.c (.fn 25 [] [])) [(.c (.str [98, 101, 103, 105, 110])), (.tmp 11)])), 0, []⟩,
⟨none, none, (.h (.store 4 (.tmp 2) (.tmp 12))), 0, []⟩])
.ret)
(.seq
(.ops [⟨(some 14), none, (.p (.mv (.tmp 0))), 0, []⟩,
⟨(some 15), none, (.h (.call (.c (.fn 40 [] [])) [(.tmp 14), (.c (.str [69, 78, 68]))])), 0, []⟩,
⟨(some 13), none, (.p (.mv (.tmp 15))), 0, []⟩])
(.cond (.tmp 13)
(.seq
(.ops [⟨(some 16), none, (.p (.mv (.tmp 0))), 0, []⟩,
⟨(some 17), none, (.h (.call (.c (.fn 41 [] [])) [(.tmp 16)])), 0, []⟩,
⟨(some 18), none, (.a (.mkSl [(.str []), (.str []), (.int .i64 0), .nilsl] 4 1 [(0, (4, (.tmp 17)))])), 0, []⟩,
⟨(some 19), none, (.h (.call (.c (.fn 25 [] [])) [(.c (.str [101, 110, 100])), (.tmp 18)])), 0, []⟩,
⟨none, none, (.h (.store 4 (.tmp 2) (.tmp 19))), 0, []⟩])
.ret)
(.seq
(.ops [⟨(some 21), none, (.p (.mv (.tmp 0))), 0, []⟩,
⟨(some 22), none, (.h (.call (.c (.fn 40 [] [])) [(.tmp 21), (.c (.str [102, 117, 110, 99, 116, 105, 111, 110]))])), 0, []⟩,
⟨(some 20), none, (.p (.mv (.tmp 22))), 0, []⟩])
(.cond (.tmp 20)
(.seq
(.ops [⟨(some 23), none, (.p (.mv (.tmp 0))), 0, []⟩,
⟨(some 24), none, (.a (.mkSl [(.int .i64 0)] 1 2 [(0, (1, (.c (.int .i64 5)))), (1, (1, (.c (.int .i64 6))))])), 0, []⟩,
⟨(some 25), none, (.h (.call (.c (.fn 43 [] [])) [(.tmp 23), (.tmp 24)])), 0, []⟩,
⟨(some 26), none, (.h (.call (.c (.fn 42 [] [])) [(.c (.str [102, 117, 110, 99])), (.tmp 25), (.c .nilsl)])), 0, []⟩,
⟨(some 3), none, (.a (.alloc [(.str []), (.str []), (.int .i64 0), .nilsl])), 0, []⟩,
⟨none, none, (.h (.store 4 (.tmp 3) (.tmp 26))), 0, []⟩])
(.seq
(.ops [⟨(some 27), none, (.p (.mv (.tmp 0))), 0, []⟩,
⟨(some 28), none, (.h (.call (.c (.fn 44 [] [])) [(.tmp 27), (.c (.str [40]))])), 0, []⟩])
(.seq
(.ops [⟨(some 29), none, (.p (.mv (.tmp 0))), 0, []⟩,
⟨(some 30), none, (.h (.call (.c (.fn 45 [] [])) [(.tmp 29)])), 0, []⟩])
(.seq
(.block 1 (.loop (.seq
(.seq
(.ops [⟨(some 31), none, (.p (.mv (.tmp 0))), 0, []⟩,
⟨(some 32), none, (.p (.nilchk (.tmp 31))), 0, []⟩,
⟨(some 33), none, (.p (.fieldAt 4 (.tmp 32))), 0, []⟩,
⟨(some 34), none, (.r (.load 1 false (.tmp 33))), 0, []⟩,
⟨(some 35), none, (.p (.bin .eql (.tmp 34) (.c (.int .i64 0)))), 0, []⟩,
⟨(some 36), none, (.p (.mv (.tmp 35))), 0, []⟩,
⟨(some 37), (some (36, true)), (.p (.mv (.tmp 0))), 0, []⟩,
⟨(some 38), (some (36, true)), (.a (.mkSl [(.str [])] 1 1 [(0, (1, (.c (.str [41]))))])), 0, []⟩,
⟨(some 39), (some (36, true)), (.h (.call (.c (.fn 26 [] [])) [(.tmp 37), (.tmp 38)])), 0, []⟩,
⟨(some 40), (some (36, true)), (.p (.un .not (.tmp 39))), 0, []⟩,
⟨(some 41), none, (.p (.pick (.tmp 36) (.tmp 40) (.c (.bool false)))), 0, []⟩])
(.cond (.tmp 41)
.skip
(.exit 1)))
(.block 2 (.seq
(.seq
(.ops [⟨(some 42), none, (.p (.fieldAt 3 (.tmp 3))), 0, []⟩,
⟨(some 43), none, (.r (.load 1 false (.tmp 42))), 0, []⟩,
⟨(some 44), none, (.p (.lenSl (.tmp 43))), 0, []⟩,
⟨(some 45), none, (.p (.bin .gtr (.tmp 44) (.c (.int .i64 0)))), 0, []⟩])
(.cond (.tmp 45)
(.seq
(.ops [⟨(some 46), none, (.p (.mv (.tmp 0))), 0, []⟩,
⟨(some 47), none, (.h (.call (.c (.fn 44 [] [])) [(.tmp 46), (.c (.str [44]))])), 0, []⟩])
(.ops [⟨(some 48), none, (.p (.mv (.tmp 0))), 0, []⟩,
⟨(some 49), none, (.h (.call (.c (.fn 45 [] [])) [(.tmp 48)])), 0, []⟩]))
.skip))
(.seq
(.draw [⟨(some 50), none, (.p (.fieldAt 3 (.tmp 3))), 0, []⟩,
⟨(some 51), none, (.r (.load 1 false (.tmp 50))), 1, []⟩,
⟨(some 52), none, (.p (.mv (.tmp 0))), 2, []⟩,
⟨(some 53), none, (.a (.mkSl [(.int .i64 0)] 1 1 [(0, (1, (.c (.int .i64 5))))])), 3, []⟩,
⟨(some 54), none, (.h (.call (.c (.fn 43 [] [])) [(.tmp 52), (.tmp 53)])), 4, [1]⟩,
⟨(some 55), none, (.h (.call (.c (.fn 42 [] [])) [(.c (.str [112, 97, 114, 97, 109])), (.tmp 54), (.c .nilsl)])), 5, [1]⟩,
⟨(some 56), none, (.a (.mkSl [(.str []), (.str []), (.int .i64 0), .nilsl] 4 1 [(0, (4, (.tmp 55)))])), 6, []⟩,
⟨(some 57), none, (.h (.app 4 64 (.tmp 51) (.tmp 56))), 7, []⟩,
⟨(some 58), none, (.p (.fieldAt 3 (.tmp 3))), 8, []⟩,
⟨none, none, (.h (.store 1 (.tmp 58) (.tmp 57))), 9, []⟩])
(.ops [⟨(some 59), none, (.p (.mv (.tmp 0))), 0, []⟩,
⟨(some 60), none, (.h (.call (.c (.fn 45 [] [])) [(.tmp 59)])), 0, []⟩])))))))
(.seq
(.ops [⟨(some 61), none, (.p (.mv (.tmp 0))), 0, []⟩,
⟨(some 62), none, (.h (.call (.c (.fn 44 [] [])) [(.tmp 61), (.c (.str [41]))])), 0, []⟩])
(.seq
(.ops [⟨(some 63), none, (.p (.mv (.tmp 0))), 0, []⟩,
⟨(some 64), none, (.h (.call (.c (.fn 45 [] [])) [(.tmp 63)])), 0, []⟩])
(.seq
(.draw [⟨(some 65), none, (.p (.fieldAt 3 (.tmp 3))), 0, []⟩,
⟨(some 66), none, (.r (.load 1 false (.tmp 65))), 1, []⟩,
⟨(some 67), none, (.p (.mv (.tmp 0))), 2, []⟩,
⟨(some 68), none, (.h (.call (.c (.fn 41 [] [])) [(.tmp 67)])), 3, [1]⟩,
⟨(some 69), none, (.a (.mkSl [(.str []), (.str []), (.int .i64 0), .nilsl] 4 1 [(0, (4, (.tmp 68)))])), 4, []⟩,
⟨(some 70), none, (.h (.app 4 64 (.tmp 66) (.tmp 69))), 5, []⟩,
⟨(some 71), none, (.p (.fieldAt 3 (.tmp 3))), 6, []⟩,
⟨none, none, (.h (.store 1 (.tmp 71) (.tmp 70))), 7, []⟩])
(.seq
(.ops [⟨(some 72), none, (.r (.load 4 true (.tmp 3))), 0, []⟩,
⟨none, none, (.h (.store 4 (.tmp 2) (.tmp 72))), 0, []⟩])
.ret))))))))
(.seq
(.ops [⟨(some 74), none, (.p (.mv (.tmp 0))), 0, []⟩,
⟨(some 75), none, (.a (.mkSl [(.str [])] 1 1 [(0, (1, (.c (.str [123]))))])), 0, []⟩,
⟨(some 76), none, (.h (.call (.c (.fn 26 [] [])) [(.tmp 74), (.tmp 75)])), 0, []⟩,
⟨(some 73), none, (.p (.mv (.tmp 76))), 0, []⟩])
(.cond (.tmp 73)
(.seq
(.ops [⟨(some 77), none, (.h (.call (.c (.fn 25 [] [])) [(.c (.str [97, 108, 119, 97, 121, 115])), (.c .nilsl)])), 0, []⟩,
⟨(some 78), none, (.p (.mv (.tmp 0))), 0, []⟩,
⟨(some 79), none, (.h (.call (.c (.fn 41 [] [])) [(.tmp 78)])), 0, []⟩,
⟨(some 80), none, (.a (.mkSl [(.str []), (.str []), (.int .i64 0), .nilsl] 4 2 [(0, (4, (.tmp 77))), (4, (4, (.tmp 79)))])), 0, []⟩,
⟨(some 81), none, (.h (.call (.c (.fn 25 [] [])) [(.c (.str [114, 117, 108, 101])), (.tmp 80)])), 0, []⟩,
⟨none, none, (.h (.store 4 (.tmp 2) (.tmp 81))), 0, []⟩])
.ret)
.skip)))))))))
(.seq
(.ops [⟨(some 82), none, (.p (.mv (.tmp 0))), 0, []⟩,
⟨(some 83), none, (.h (.call (.c (.fn 46 [] [])) [(.tmp 82)])), 0, []⟩,
⟨(some 84), none, (.a (.mkSl [(.str []), (.str []), (.int .i64 0), .nilsl] 4 1 [(0, (4, (.tmp 83)))])), 0, []⟩,
⟨(some 85), none, (.h (.call (.c (.fn 25 [] [])) [(.c (.str [114, 117, 108, 101])), (.tmp 84)])), 0, []⟩,
⟨(some 4), none, (.a (.alloc [(.str []), (.str []), (.int .i64 0), .nilsl])), 0, []⟩,
⟨none, none, (.h (.store 4 (.tmp 4) (.tmp 85))), 0, []⟩])
(.seq
(.seq
(.ops [⟨(some 86), none, (.p (.mv (.tmp 0))), 0, []⟩,
⟨(some 87), none, (.a (.mkSl [(.str [])] 1 1 [(0, (1, (.c (.str [123]))))])), 0, []⟩,
⟨(some 88), none, (.h (.call (.c (.fn 26 [] [])) [(.tmp 86), (.tmp 87)])), 0, []⟩])
(.cond (.tmp 88)
(.seq
(.draw [⟨(some 89), none, (.p (.fieldAt 3 (.tmp 4))), 0, []⟩,
⟨(some 90), none, (.r (.load 1 false (.tmp 89))), 1, []⟩,
⟨(some 91), none, (.p (.mv (.tmp 0))), 2, []⟩,
⟨(some 92), none, (.h (.call (.c (.fn 41 [] [])) [(.tmp 91)])), 3, [1]⟩,
⟨(some 93), none, (.a (.mkSl [(.str []), (.str []), (.int .i64 0), .nilsl] 4 1 [(0, (4, (.tmp 92)))])), 4, []⟩,
⟨(some 94), none, (.h (.app 4 64 (.tmp 90) (.tmp 93))), 5, []⟩,
⟨(some 95), none, (.p (.fieldAt 3 (.tmp 4))), 6, []⟩,
⟨none, none, (.h (.store 1 (.tmp 95) (.tmp 94))), 7, []⟩])
(.seq
(.ops [⟨(some 96), none, (.r (.load 4 true (.tmp 4))), 0, []⟩,
⟨none, none, (.h (.store 4 (.tmp 2) (.tmp 96))), 0, []⟩])
.ret))
.skip))
(.seq
(.seq
(.ops [⟨(some 97), none, (.p (.mv (.tmp 0))), 0, []⟩,
⟨(some 98), none, (.h (.call (.c (.fn 27 [] [])) [(.tmp 97)])), 0, []⟩,
⟨(some 5), none, (.a (.alloc [(.int .i64 0), (.str []), (.int .i64 0)])), 0, []⟩,
⟨none, none, (.h (.store 3 (.tmp 5) (.tmp 98))), 0, []⟩])
(.seq
(.ops [⟨(some 99), none, (.p (.fieldAt 0 (.tmp 5))), 0, []⟩,
⟨(some 100), none, (.r (.load 1 false (.tmp 99))), 0, []⟩,
⟨(some 101), none, (.p (.bin .neq (.tmp 100) (.c (.int .i64 1)))), 0, []⟩,
⟨(some 102), none, (.p (.mv (.tmp 101))), 0, []⟩,
⟨(some 103), (some (102, true)), (.p (.fieldAt 0 (.tmp 5))), 0, []⟩,
⟨(some 104), (some (102, true)), (.r (.load 1 false (.tmp 103))), 0, []⟩,
⟨(some 105), (some (102, true)), (.p (.bin .neq (.tmp 104) (.c (.int .i64 0)))), 0, []⟩,
⟨(some 106), none, (.p (.pick (.tmp 102) (.tmp 105) (.c (.bool false)))), 0, []⟩,
⟨(some 107), none, (.p (.mv (.tmp 106))), 0, []⟩,
⟨(some 108), (some (107, true)), (.p (.mv (.tmp 0))), 0, []⟩,
⟨(some 109), (some (107, true)), (.a (.mkSl [(.str [])] 1 1 [(0, (1, (.c (.str [59]))))])), 0, []⟩,
⟨(some 110), (some (107, true)), (.h (.call (.c (.fn 26 [] [])) [(.tmp 108), (.tmp 109)])), 0, []⟩,
⟨(some 111), (some (107, true)), (.p (.un .not (.tmp 110))), 0, []⟩,
⟨(some 112), none, (.p (.pick (.tmp 107) (.tmp 111) (.c (.bool false)))), 0, []⟩])
(.cond (.tmp 112)
(.ops [⟨(some 113), none, (.p (.mv (.tmp 0))), 0, []⟩,
⟨(some 114), none, (.h (.call (.c (.fn 47 [] [])) [(.tmp 113)])), 0, []⟩])
.skip)))
(.seq
(.draw [⟨(some 115), none, (.p (.fieldAt 3 (.tmp 4))), 0, []⟩,
⟨(some 116), none, (.r (.load 1 false (.tmp 115))), 1, []⟩,
⟨(some 117), none, (.h (.call (.c (.fn 25 [] [])) [(.c (.str [100, 101, 102, 97, 117, 108, 116])), (.c .nilsl)])), 2, [1]⟩,
⟨(some 118), none, (.a (.mkSl [(.str []), (.str []), (.int .i64 0), .nilsl] 4 1 [(0, (4, (.tmp 117)))])), 3, []⟩,
⟨(some 119), none, (.h (.app 4 64 (.tmp 116) (.tmp 118))), 4, []⟩,
⟨(some 120), none, (.p (.fieldAt 3 (.tmp 4))), 5, []⟩,
⟨none, none, (.h (.store 1 (.tmp 120) (.tmp 119))), 6, []⟩])
(.seq
(.ops [⟨(some 121), none, (.r (.load 4 true (.tmp 4))), 0, []⟩,
⟨none, none, (.h (.store 4 (.tmp 2) (.tmp 121))), 0, []⟩])
.ret)))))))⟩
theorem c29 : Mir.compF Tryz.prog Tryz.f29 = some g29 := by kernel_rfl
/-- (*scribe/resolve.resolver).collect -/
def g30 : Mir.Fn := ⟨94, [],
(.seq
(.ops [⟨(some 11), none, (.p (.mv (.tmp 1))), 0, []⟩,
⟨(some 12), none, (.p (.lenSl (.tmp 11))), 0, []⟩,
⟨(some 13), none, (.p (.mv (.c (.int .i64 0)))), 0, []⟩])
(.block 0 (.loop (.seq
(.ops [⟨(some 14), none, (.p (.bin .lss (.tmp 13) (.tmp 12))), 0, []⟩])
(.seq
(.cond (.tmp 14)
.skip
(.exit 0))
(.seq
(.block 1 (.seq
(.ops [⟨(some 15), none, (.p (.idxSl 4 (.tmp 11) (.tmp 13))), 0, []⟩,
⟨(some 16), none, (.r (.load 4 true (.tmp 15))), 0, []⟩,
⟨(some 5), none, (.a (.alloc [(.str []), (.str []), (.int .i64 0), .nilsl])), 0, []⟩,
⟨none, none, (.h (.store 4 (.tmp 5) (.tmp 16))), 0, []⟩])
(.seq
(.seq
(.ops [⟨(some 17), none, (.p (.fieldAt 0 (.tmp 5))), 0, []⟩,
⟨(some 18), none, (.r (.load 1 false (.tmp 17))), 0, []⟩,
⟨(some 19), none, (.p (.bin .neq (.tmp 18) (.c (.str [102, 117, 110, 99])))), 0, []⟩])
(.cond (.tmp 19)
(.exit 1)
.skip))
(.seq
(.draw [⟨(some 20), none, (.p (.fieldAt 1 (.tmp 5))), 0, []⟩,
⟨(some 21), none, (.r (.load 1 false (.tmp 20))), 1, []⟩,
⟨(some 22), none, (.p (.fieldAt 3 (.tmp 5))), 2, []⟩,
⟨(some 23), none, (.r (.load 1 false (.tmp 22))), 3, []⟩,
⟨(some 24), none, (.p (.fieldAt 3 (.tmp 5))), 4, []⟩,
⟨(some 25), none, (.r (.load 1 false (.tmp 24))), 5, []⟩,
⟨(some 26), none, (.p (.lenSl (.tmp 25))), 6, []⟩,
⟨(some 27), none, (.p (.bin .sub (.tmp 26) (.c (.int .i64 1)))), 7, []⟩,
⟨(some 28), none, (.p (.idxSl 4 (.tmp 23) (.tmp 27))), 8, []⟩,
⟨(some 29), none, (.r (.load 4 true (.tmp 28))), 9, []⟩,
⟨(some 30), none, (.p (.build [(.str []), .nilsl, .nilsl, (.str []), (.str []), (.int .i64 0), .nilsl] [(0, (1, (.tmp 21))), (3, (4, (.tmp 29)))])), 10, []⟩,
⟨(some 6), none, (.a (.alloc [(.str []), .nilsl, .nilsl, (.str []), (.str []), (.int .i64 0), .nilsl])), 11, []⟩,
⟨none, none, (.h (.store 7 (.tmp 6) (.tmp 30))), 12, []⟩])
(.seq
(.seq
(.ops [⟨(some 31), none, (.p (.fieldAt 3 (.tmp 5))), 0, []⟩,
⟨(some 32), none, (.r (.load 1 false (.tmp 31))), 0, []⟩,
⟨(some 33), none, (.p (.fieldAt 3 (.tmp 5))), 0, []⟩,
⟨(some 34), none, (.r (.load 1 false (.tmp 33))), 0, []⟩,
⟨(some 35), none, (.p (.lenSl (.tmp 34))), 0, []⟩,
⟨(some 36), none, (.p (.bin .sub (.tmp 35) (.c (.int .i64 1)))), 0, []⟩,
⟨(some 37), none, (.p (.subSl 4 (.tmp 32) none (some (.tmp 36)))), 0, []⟩,
⟨(some 38), none, (.p (.lenSl (.tmp 37))), 0, []⟩,
⟨(some 39), none, (.p (.mv (.c (.int .i64 0)))), 0, []⟩])
(.block 2 (.loop (.seq
(.ops [⟨(some 40), none, (.p (.bin .lss (.tmp 39) (.tmp 38))), 0, []⟩])
(.seq
(.cond (.tmp 40)
.skip
(.exit 2))
(.seq
(.block 3 (.seq
(.ops [⟨(some 41), none, (.p (.idxSl 4 (.tmp 37) (.tmp 39))), 0, []⟩,
⟨(some 42), none, (.r (.load 4 true (.tmp 41))), 0, []⟩,
⟨(some 8), none, (.a (.alloc [(.str []), (.str []), (.int .i64 0), .nilsl])), 0, []⟩,
⟨none, none, (.h (.store 4 (.tmp 8) (.tmp 42))), 0, []⟩])
(.ops [⟨(some 43), none, (.p (.fieldAt 1 (.tmp 6))), 0, []⟩,
⟨(some 44), none, (.r (.load 1 false (.tmp 43))), 0, []⟩,
⟨(some 45), none, (.p (.fieldAt 1 (.tmp 8))), 0, []⟩,
⟨(some 46), none, (.r (.load 1 false (.tmp 45))), 0, []⟩,
⟨(some 47), none, (.a (.mkSl [(.str [])] 1 1 [(0, (1, (.tmp 46)))])), 0, []⟩,
⟨(some 48), none, (.h (.app 1 16 (.tmp 44) (.tmp 47))), 0, []⟩,
⟨(some 49), none, (.p (.fieldAt 1 (.tmp 6))), 0, []⟩,
⟨none, none, (.h (.store 1 (.tmp 49) (.tmp 48))), 0, []⟩])))
(.ops [⟨(some 50), none, (.p (.bin .add (.tmp 39) (.c (.int .i64 1)))), 0, []⟩,
⟨(some 39), none, (.p (.mv (.tmp 50))), 0, []⟩])))))))
(.seq
(.seq
(.draw [⟨(some 52), none, (.p (.mv (.tmp 0))), 0, []⟩,
⟨(some 53), none, (.p (.nilchk (.tmp 52))), 1, []⟩,
⟨(some 54), none, (.p (.fieldAt 0 (.tmp 53))), 2, []⟩,
⟨(some 55), none, (.r (.load 1 false (.tmp 54))), 3, []⟩,
⟨(some 56), none, (.p (.fieldAt 1 (.tmp 5))), 4, []⟩,
⟨(some 57), none, (.r (.load 1 false (.tmp 56))), 5, []⟩,
⟨(some 58), none, (.r (.lookup (.one .str) (.int .i64 0) true (.tmp 55) (.tmp 57))), 6, []⟩,
⟨(some 51), none, (.p (.mv (.tmp 58))), 7, []⟩,
⟨(some 59), none, (.p (.ext (.tmp 51) 0)), 8, []⟩,
⟨(some 60), none, (.p (.ext (.tmp 51) 1)), 9, []⟩,
⟨(some 9), none, (.p (.mv (.tmp 59))), 10, []⟩,
⟨(some 10), none, (.p (.mv (.tmp 60))), 11, []⟩])
(.seq
(.ops [⟨(some 61), none, (.p (.mv (.tmp 10))), 0, []⟩,
⟨(some 62), none, (.p (.un .not (.tmp 61))), 0, []⟩])
(.cond (.tmp 62)
(.draw [⟨(some 63), none, (.p (.mv (.tmp 0))), 0, []⟩,
⟨(some 64), none, (.p (.nilchk (.tmp 63))), 1, []⟩,
⟨(some 65), none, (.p (.fieldAt 0 (.tmp 64))), 2, []⟩,
⟨(some 66), none, (.r (.load 1 false (.tmp 65))), 3, []⟩,
⟨(some 67), none, (.p (.fieldAt 1 (.tmp 5))), 4, []⟩,
⟨(some 68), none, (.r (.load 1 false (.tmp 67))), 5, []⟩,
⟨(some 69), none, (.p (.mv (.tmp 0))), 6, []⟩,
⟨(some 70), none, (.p (.nilchk (.tmp 69))), 7, []⟩,
⟨(some 71), none, (.p (.fieldAt 1 (.tmp 70))), 8, []⟩,
⟨(some 72), none, (.r (.load 1 false (.tmp 71))), 9, []⟩,
⟨(some 73), none, (.p (.nilchk (.tmp 72))), 10, []⟩,
⟨(some 74), none, (.p (.fieldAt 0 (.tmp 73))), 11, []⟩,
⟨(some 75), none, (.r (.load 1 false (.tmp 74))), 12, []⟩,
⟨(some 76), none, (.p (.lenSl (.tmp 75))), 13, []⟩,
⟨none, none, (.h (.mapUpd (.one .str) (.tmp 66) (.tmp 68) (.tmp 76))), 14, []⟩])
.skip)))
(.draw [⟨(some 77), none, (.p (.mv (.tmp 0))), 0, []⟩,
⟨(some 78), none, (.p (.nilchk (.tmp 77))), 1, []⟩,
⟨(some 79), none, (.p (.fieldAt 1 (.tmp 78))), 2, []⟩,
⟨(some 80), none, (.r (.load 1 false (.tmp 79))), 3, []⟩,
⟨(some 81), none, (.p (.mv (.tmp 0))), 4, []⟩,
⟨(some 82), none, (.p (.nilchk (.tmp 81))), 5, []⟩,
⟨(some 83), none, (.p (.fieldAt 1 (.tmp 82))), 6, []⟩,
⟨(some 84), none, (.r (.load 1 false (.tmp 83))), 7, []⟩,
⟨(some 85), none, (.p (.nilchk (.tmp 84))), 8, []⟩,
⟨(some 86), none, (.p (.fieldAt 0 (.tmp 85))), 9, []⟩,
⟨(some 87), none, (.r (.load 1 false (.tmp 86))), 10, []⟩,
⟨(some 88), none, (.r (.load 7 true (.tmp 6))), 11, []⟩,
⟨(some 89), none, (.a (.mkSl [(.str []), .nilsl, .nilsl, (.str []), (.str []), (.int .i64 0), .nilsl] 7 1 [(0, (7, (.tmp 88)))])), 12, []⟩,
⟨(some 90), none, (.h (.app 7 128 (.tmp 87) (.tmp 89))), 13, [3]⟩,
⟨(some 91), none, (.p (.nilchk (.tmp 80))), 14, []⟩,
⟨(some 92), none, (.p (.fieldAt 0 (.tmp 91))), 15, []⟩,
⟨none, none, (.h (.store 1 (.tmp 92) (.tmp 90))), 16, []⟩])))))))
(.ops [⟨(some 93), none, (.p (.bin .add (.tmp 13) (.c (.int .i64 1)))), 0, []⟩,
⟨(some 13), none, (.p (.mv (.tmp 93))), 0, []⟩])))))))⟩
theorem c30 : Mir.compF Tryz.prog Tryz.f30 = some g30 := by kernel_rfl
/-- (*scribe/resolve.resolver).mark -/
def g31 : Mir.Fn := ⟨128, [],
(.seq
(.ops [⟨(some 2), none, (.a (.box (.tmp 0))), 0, []⟩])
(.seq
(.ops [⟨(some 4), none, (.a (.alloc [(.bool false)])), 0, []⟩,
⟨none, none, (.h (.store 1 (.tmp 4) (.c (.bool true)))), 0, []⟩])
(.block 0 (.loop (.seq
(.seq
(.ops [⟨(some 20), none, (.r (.load 1 false (.tmp 4))), 0, []⟩])
(.cond (.tmp 20)
.skip
(.exit 0)))
(.seq
(.block 1 (.seq
(.ops [⟨none, none, (.h (.store 1 (.tmp 4) (.c (.bool false)))), 0, []⟩])
(.seq
(.ops [⟨(some 21), none, (.p (.mkFn 48 [] [(.tmp 2), (.tmp 4)])), 0, []⟩,
⟨(some 5), none, (.a (.alloc [.nilfn])), 0, []⟩,
⟨none, none, (.h (.store 1 (.tmp 5) (.tmp 21))), 0, []⟩])
(.seq
(.ops [⟨(some 22), none, (.p (.mv (.tmp 1))), 0, []⟩,
⟨(some 23), none, (.p (.lenSl (.tmp 22))), 0, []⟩,
⟨(some 24), none, (.p (.mv (.c (.int .i64 0)))), 0, []⟩])
(.block 2 (.loop (.seq
(.ops [⟨(some 25), none, (.p (.bin .lss (.tmp 24) (.tmp 23))), 0, []⟩])
(.seq
(.cond (.tmp 25)
.skip
(.exit 2))
(.seq
(.block 3 (.seq
(.ops [⟨(some 26), none, (.p (.idxSl 4 (.tmp 22) (.tmp 24))), 0, []⟩,
⟨(some 27), none, (.r (.load 4 true (.tmp 26))), 0, []⟩,
⟨(some 7), none, (.a (.alloc [(.str []), (.str []), (.int .i64 0), .nilsl])), 0, []⟩,
⟨none, none, (.h (.store 4 (.tmp 7) (.tmp 27))), 0, []⟩])
(.seq
(.ops [⟨(some 28), none, (.r (.load 1 false (.tmp 2))), 0, []⟩,
⟨(some 29), none, (.r (.load 4 true (.tmp 7))), 0, []⟩,
⟨(some 30), none, (.h (.call (.c (.fn 49 [] [])) [(.tmp 28), (.tmp 29)])), 0, []⟩,
⟨(some 8), none, (.a (.alloc [(.int .i64 0)])), 0, []⟩,
⟨none, none, (.h (.store 1 (.tmp 8) (.tmp 30))), 0, []⟩])
(.seq
(.ops [⟨(some 31), none, (.r (.load 4 true (.tmp 7))), 0, []⟩,
⟨(some 32), none, (.h (.call (.c (.fn 17 [] [])) [(.tmp 31)])), 0, []⟩])
(.block 4 (.rangeFn (.tmp 32) [33, 34] (.ops [⟨(some 10), none, (.a (.alloc [(.str []), (.str []), (.int .i64 0), .nilsl])), 0, []⟩,
⟨none, none, (.h (.store 4 (.tmp 10) (.tmp 34))), 0, []⟩]) (.block 5 (.seq
(.seq
(.ops [⟨(some 36), none, (.r (.load 4 true (.tmp 10))), 0, []⟩,
⟨(some 37), none, (.h (.call (.c (.fn 50 [] [])) [(.tmp 36)])), 0, []⟩,
⟨(some 35), none, (.p (.mv (.tmp 37))), 0, []⟩,
⟨(some 38), none, (.p (.ext (.tmp 35) 0)), 0, []⟩,
⟨(some 39), none, (.p (.ext (.tmp 35) 1)), 0, []⟩,
⟨(some 11), none, (.p (.mv (.tmp 38))), 0, []⟩,
⟨(some 12), none, (.p (.mv (.tmp 39))), 0, []⟩])
(.seq
(.ops [⟨(some 40), none, (.p (.mv (.tmp 12))), 0, []⟩])
(.cond (.tmp 40)
(.draw [⟨(some 41), none, (.r (.load 1 false (.tmp 5))), 0, []⟩,
⟨(some 42), none, (.r (.load 1 false (.tmp 2))), 1, []⟩,
⟨(some 43), none, (.r (.load 1 false (.tmp 8))), 2, []⟩,
⟨(some 44), none, (.p (.mv (.tmp 11))), 3, []⟩,
⟨(some 45), none, (.h (.call (.c (.fn 51 [] [])) [(.tmp 42), (.tmp 43), (.tmp 44)])), 4, [0]⟩,
⟨(some 46), none, (.h (.call (.tmp 41) [(.tmp 45)])), 5, []⟩])
.skip)))
(.seq
(.draw [⟨(some 48), none, (.r (.load 1 false (.tmp 2))), 0, []⟩,
⟨(some 49), none, (.p (.nilchk (.tmp 48))), 1, []⟩,
⟨(some 50), none, (.p (.fieldAt 0 (.tmp 49))), 2, []⟩,
⟨(some 51), none, (.r (.load 1 false (.tmp 50))), 3, []⟩,
⟨(some 52), none, (.p (.fieldAt 1 (.tmp 10))), 4, []⟩,
⟨(some 53), none, (.r (.load 1 false (.tmp 52))), 5, []⟩,
⟨(some 54), none, (.r (.lookup (.one .str) (.int .i64 0) true (.tmp 51) (.tmp 53))), 6, []⟩,
⟨(some 47), none, (.p (.mv (.tmp 54))), 7, []⟩,
⟨(some 55), none, (.p (.ext (.tmp 47) 0)), 8, []⟩,
⟨(some 56), none, (.p (.ext (.tmp 47) 1)), 9, []⟩,
⟨(some 13), none, (.p (.mv (.tmp 55))), 10, []⟩,
⟨(some 14), none, (.p (.mv (.tmp 56))), 11, []⟩])
(.seq
(.seq
(.ops [⟨(some 57), none, (.p (.fieldAt 0 (.tmp 10))), 0, []⟩,
⟨(some 58), none, (.r (.load 1 false (.tmp 57))), 0, []⟩,
⟨(some 59), none, (.p (.bin .neq (.tmp 58) (.c (.str [99, 97, 108, 108])))), 0, []⟩,
⟨(some 60), none, (.p (.mv (.tmp 59))), 0, []⟩,
⟨(some 61), (some (60, false)), (.p (.mv (.tmp 14))), 0, []⟩,
⟨(some 62), (some (60, false)), (.p (.un .not (.tmp 61))), 0, []⟩,
⟨(some 63), none, (.p (.pick (.tmp 60) (.c (.bool true)) (.tmp 62))), 0, []⟩])
(.cond (.tmp 63)
(.exit 5)
.skip))
(.seq
(.ops [⟨(some 64), none, (.r (.load 1 false (.tmp 2))), 0, []⟩,
⟨(some 65), none, (.p (.nilchk (.tmp 64))), 0, []⟩,
⟨(some 66), none, (.p (.fieldAt 1 (.tmp 65))), 0, []⟩,
⟨(some 67), none, (.r (.load 1 false (.tmp 66))), 0, []⟩,
⟨(some 68), none, (.p (.nilchk (.tmp 67))), 0, []⟩,
⟨(some 69), none, (.p (.fieldAt 0 (.tmp 68))), 0, []⟩,
⟨(some 70), none, (.r (.load 1 false (.tmp 69))), 0, []⟩,
⟨(some 71), none, (.p (.mv (.tmp 13))), 0, []⟩,
⟨(some 72), none, (.p (.idxSl 7 (.tmp 70) (.tmp 71))), 0, []⟩,
⟨(some 73), none, (.r (.load 7 true (.tmp 72))), 0, []⟩,
⟨(some 15), none, (.a (.alloc [(.str []), .nilsl, .nilsl, (.str []), (.str []), (.int .i64 0), .nilsl])), 0, []⟩,
⟨none, none, (.h (.store 7 (.tmp 15) (.tmp 73))), 0, []⟩])
(.seq
(.ops [⟨(some 74), none, (.p (.fieldAt 3 (.tmp 10))), 0, []⟩,
⟨(some 75), none, (.r (.load 1 false (.tmp 74))), 0, []⟩,
⟨(some 76), none, (.p (.fieldAt 3 (.tmp 10))), 0, []⟩,
⟨(some 77), none, (.r (.load 1 false (.tmp 76))), 0, []⟩,
⟨(some 78), none, (.p (.lenSl (.tmp 77))), 0, []⟩,
⟨(some 79), none, (.p (.fieldAt 1 (.tmp 15))), 0, []⟩,
⟨(some 80), none, (.r (.load 1 false (.tmp 79))), 0, []⟩,
⟨(some 81), none, (.p (.lenSl (.tmp 80))), 0, []⟩,
⟨(some 82), none, (.p (.mnmx false (.tmp 78) [(.tmp 81)])), 0, []⟩,
⟨(some 83), none, (.p (.subSl 4 (.tmp 75) none (some (.tmp 82)))), 0, []⟩,
⟨(some 84), none, (.p (.lenSl (.tmp 83))), 0, []⟩,
⟨(some 85), none, (.p (.mv (.c (.int .i64 0)))), 0, []⟩])
(.block 6 (.loop (.seq
(.ops [⟨(some 86), none, (.p (.bin .lss (.tmp 85) (.tmp 84))), 0, []⟩])
(.seq
(.cond (.tmp 86)
.skip
(.exit 6))
(.seq
(.block 7 (.seq
(.ops [⟨(some 87), none, (.p (.mv (.tmp 85))), 0, []⟩,
⟨(some 88), none, (.p (.idxSl 4 (.tmp 83) (.tmp 85))), 0, []⟩,
⟨(some 89), none, (.r (.load 4 true (.tmp 88))), 0, []⟩,
⟨(some 17), none, (.a (.alloc [(.str []), (.str []), (.int .i64 0), .nilsl])), 0, []⟩,
⟨(some 16), none, (.p (.mv (.tmp 87))), 0, []⟩,
⟨none, none, (.h (.store 4 (.tmp 17) (.tmp 89))), 0, []⟩])
(.seq
(.seq
(.ops [⟨(some 90), none, (.p (.fieldAt 0 (.tmp 17))), 0, []⟩,
⟨(some 91), none, (.r (.load 1 false (.tmp 90))), 0, []⟩,
⟨(some 92), none, (.p (.bin .neq (.tmp 91) (.c (.str [118, 97, 114])))), 0, []⟩])
(.cond (.tmp 92)
(.exit 7)
.skip))
(.seq
(.draw [⟨(some 93), none, (.p (.mv (.tmp 13))), 0, []⟩,
⟨(some 94), none, (.p (.fieldAt 1 (.tmp 15))), 1, []⟩,
⟨(some 95), none, (.r (.load 1 false (.tmp 94))), 2, []⟩,
⟨(some 96), none, (.p (.mv (.tmp 16))), 3, []⟩,
⟨(some 97), none, (.p (.idxSl 1 (.tmp 95) (.tmp 96))), 4, []⟩,
⟨(some 98), none, (.r (.load 1 false (.tmp 97))), 5, []⟩,
⟨(some 99), none, (.p (.build [(.int .i64 0), (.str [])] [(0, (1, (.tmp 93))), (1, (1, (.tmp 98)))])), 6, []⟩,
⟨(some 100), none, (.r (.load 1 false (.tmp 2))), 7, []⟩,
⟨(some 101), none, (.r (.load 1 false (.tmp 8))), 8, []⟩,
⟨(some 102), none, (.p (.fieldAt 1 (.tmp 17))), 9, []⟩,
⟨(some 103), none, (.r (.load 1 false (.tmp 102))), 10, []⟩,
⟨(some 104), none, (.h (.call (.c (.fn 51 [] [])) [(.tmp 100), (.tmp 101), (.tmp 103)])), 11, [2, 5]⟩,
⟨(some 18), none, (.a (.alloc [(.int .i64 0), (.str [])])), 12, []⟩,
⟨(some 19), none, (.a (.alloc [(.int .i64 0), (.str [])])), 13, []⟩,
⟨none, none, (.h (.store 2 (.tmp 18) (.tmp 99))), 14, []⟩,
⟨none, none, (.h (.store 2 (.tmp 19) (.tmp 104))), 15, []⟩])
(.seq
(.draw [⟨(some 105), none, (.r (.load 1 false (.tmp 2))), 0, []⟩,
⟨(some 106), none, (.p (.nilchk (.tmp 105))), 1, []⟩,
⟨(some 107), none, (.p (.fieldAt 2 (.tmp 106))), 2, []⟩,
⟨(some 108), none, (.r (.load 1 false (.tmp 107))), 3, []⟩,
⟨(some 109), none, (.r (.load 2 true (.tmp 18))), 4, []⟩,
⟨(some 110), none, (.r (.lookup (.agg [.int, .str]) (.bool false) false (.tmp 108) (.tmp 109))), 5, []⟩,
⟨(some 111), none, (.p (.mv (.tmp 110))), 6, []⟩,
⟨(some 112), (some (111, false)), (.r (.load 1 false (.tmp 2))), 7, []⟩,
⟨(some 113), (some (111, false)), (.p (.nilchk (.tmp 112))), 8, []⟩,
⟨(some 114), (some (111, false)), (.p (.fieldAt 2 (.tmp 113))), 9, []⟩,
⟨(some 115), (some (111, false)), (.r (.load 1 false (.tmp 114))), 10, []⟩,
⟨(some 116), (some (111, false)), (.r (.load 2 true (.tmp 19))), 11, []⟩,
⟨(some 117), (some (111, false)), (.r (.lookup (.agg [.int, .str]) (.bool false) false (.tmp 115) (.tmp 116))), 12, []⟩,
⟨(some 118), none, (.p (.pick (.tmp 111) (.c (.bool true)) (.tmp 117))), 13, []⟩])
(.cond (.tmp 118)
(.seq
(.ops [⟨(some 119), none, (.r (.load 1 false (.tmp 5))), 0, []⟩,
⟨(some 120), none, (.r (.load 2 true (.tmp 18))), 0, []⟩,
⟨(some 121), none, (.h (.call (.tmp 119) [(.tmp 120)])), 0, []⟩])
(.ops [⟨(some 122), none, (.r (.load 1 false (.tmp 5))), 0, []⟩,
⟨(some 123), none, (.r (.load 2 true (.tmp 19))), 0, []⟩,
⟨(some 124), none, (.h (.call (.tmp 122) [(.tmp 123)])), 0, []⟩]))
.skip))))))
(.ops [⟨(some 125), none, (.p (.bin .add (.tmp 85) (.c (.int .i64 1)))), 0, []⟩,
⟨(some 85), none, (.p (.mv (.tmp 125))), 0, []⟩]))))))))))))))))))
(.ops [⟨(some 126), none, (.p (.bin .add (.tmp 24) (.c (.int .i64 1)))), 0, []⟩,
⟨(some 24), none, (.p (.mv (.tmp 126))), 0, []⟩]))))))))))
(.seq
(.ops [⟨(some 127), none, (.r (.load 1 false (.tmp 4))), 0, []⟩])
(.ops [⟨(some 4), none, (.a (.alloc [(.bool false)])), 0, []⟩,
⟨none, none, (.h (.store 1 (.tmp 4) (.tmp 127))), 0, []⟩]))))))))⟩
theorem c31 : Mir.compF Tryz.prog Tryz.f31 = some g31 := by kernel_rfl
/-- (*scribe/resolve.resolver).item -/
def g32 : Mir.Fn := ⟨94, [],
(.seq
(.ops [⟨(some 4), none, (.a (.box (.tmp 1))), 0, []⟩])
(.seq
(.seq
(.ops [⟨(some 11), none, (.p (.fieldAt 0 (.tmp 4))), 0, []⟩,
⟨(some 12), none, (.r (.load 1 false (.tmp 11))), 0, []⟩,
⟨(some 13), none, (.p (.bin .neq (.tmp 12) (.c (.str [102, 117, 110, 99])))), 0, []⟩])
(.cond (.tmp 13)
(.seq
(.ops [⟨(some 14), none, (.p (.mv (.tmp 0))), 0, []⟩,
⟨(some 15), none, (.r (.load 4 true (.tmp 4))), 0, []⟩,
⟨(some 16), none, (.p (.fieldAt 0 (.tmp 4))), 0, []⟩,
⟨(some 17), none, (.r (.load 1 false (.tmp 16))), 0, []⟩,
⟨(some 18), none, (.p (.bin .eql (.tmp 17) (.c (.str [114, 117, 108, 101])))), 0, []⟩,
⟨(some 19), none, (.p (.build [(.bool false), (.bool false), (.bool false)] [(2, (1, (.tmp 18)))])), 0, []⟩,
⟨(some 20), none, (.h (.call (.c (.fn 52 [] [])) [(.tmp 14), (.c (.int .i64 (-1))), (.tmp 15), (.tmp 19)])), 0, []⟩])
.ret)
.skip))
(.seq
(.seq
(.draw [⟨(some 21), none, (.p (.mv (.tmp 0))), 0, []⟩,
⟨(some 22), none, (.p (.nilchk (.tmp 21))), 1, []⟩,
⟨(some 23), none, (.p (.fieldAt 0 (.tmp 22))), 2, []⟩,
⟨(some 24), none, (.r (.load 1 false (.tmp 23))), 3, []⟩,
⟨(some 25), none, (.p (.fieldAt 1 (.tmp 4))), 4, []⟩,
⟨(some 26), none, (.r (.load 1 false (.tmp 25))), 5, []⟩,
⟨(some 27), none, (.r (.lookup (.one .str) (.int .i64 0) false (.tmp 24) (.tmp 26))), 6, []⟩,
⟨(some 28), none, (.p (.mv (.tmp 2))), 7, []⟩,
⟨(some 29), none, (.p (.bin .neq (.tmp 27) (.tmp 28))), 8, []⟩])
(.cond (.tmp 29)
(.seq
(.ops [⟨(some 30), none, (.p (.mv (.tmp 0))), 0, []⟩,
⟨(some 31), none, (.p (.fieldAt 2 (.tmp 4))), 0, []⟩,
⟨(some 32), none, (.r (.load 1 false (.tmp 31))), 0, []⟩,
⟨(some 33), none, (.h (.call (.c (.fn 53 [] [])) [(.tmp 30), (.tmp 32), (.c (.int .i64 11))])), 0, []⟩])
.ret)
.skip))
(.seq
(.ops [⟨(some 34), none, (.p (.mv (.tmp 0))), 0, []⟩,
⟨(some 35), none, (.p (.nilchk (.tmp 34))), 0, []⟩,
⟨(some 36), none, (.p (.fieldAt 1 (.tmp 35))), 0, []⟩,
⟨(some 37), none, (.r (.load 1 false (.tmp 36))), 0, []⟩,
⟨(some 38), none, (.p (.nilchk (.tmp 37))), 0, []⟩,
⟨(some 39), none, (.p (.fieldAt 0 (.tmp 38))), 0, []⟩,
⟨(some 40), none, (.r (.load 1 false (.tmp 39))), 0, []⟩,
⟨(some 41), none, (.p (.mv (.tmp 2))), 0, []⟩,
⟨(some 42), none, (.p (.idxSl 7 (.tmp 40) (.tmp 41))), 0, []⟩,
⟨(some 43), none, (.r (.load 7 true (.tmp 42))), 0, []⟩,
⟨(some 6), none, (.a (.alloc [(.str []), .nilsl, .nilsl, (.str []), (.str []), (.int .i64 0), .nilsl])), 0, []⟩,
⟨none, none, (.h (.store 7 (.tmp 6) (.tmp 43))), 0, []⟩])
(.seq
(.seq
(.ops [⟨(some 44), none, (.p (.fieldAt 3 (.tmp 4))), 0, []⟩,
⟨(some 45), none, (.r (.load 1 false (.tmp 44))), 0, []⟩,
⟨(some 46), none, (.p (.fieldAt 3 (.tmp 4))), 0, []⟩,
⟨(some 47), none, (.r (.load 1 false (.tmp 46))), 0, []⟩,
⟨(some 48), none, (.p (.lenSl (.tmp 47))), 0, []⟩,
⟨(some 49), none, (.p (.bin .sub (.tmp 48) (.c (.int .i64 1)))), 0, []⟩,
⟨(some 50), none, (.p (.subSl 4 (.tmp 45) none (some (.tmp 49)))), 0, []⟩,
⟨(some 51), none, (.p (.lenSl (.tmp 50))), 0, []⟩,
⟨(some 52), none, (.p (.mv (.c (.int .i64 0)))), 0, []⟩])
(.block 0 (.loop (.seq
(.ops [⟨(some 53), none, (.p (.bin .lss (.tmp 52) (.tmp 51))), 0, []⟩])
(.seq
(.cond (.tmp 53)
.skip
(.exit 0))
(.seq
(.block 1 (.seq
(.ops [⟨(some 54), none, (.p (.mv (.tmp 52))), 0, []⟩,
⟨(some 55), none, (.p (.idxSl 4 (.tmp 50) (.tmp 52))), 0, []⟩,
⟨(some 56), none, (.r (.load 4 true (.tmp 55))), 0, []⟩,
⟨(some 8), none, (.a (.alloc [(.str []), (.str []), (.int .i64 0), .nilsl])), 0, []⟩,
⟨(some 7), none, (.p (.mv (.tmp 54))), 0, []⟩,
⟨none, none, (.h (.store 4 (.tmp 8) (.tmp 56))), 0, []⟩])
(.seq
(.draw [⟨(some 58), none, (.p (.mv (.tmp 0))), 0, []⟩,
⟨(some 59), none, (.p (.nilchk (.tmp 58))), 1, []⟩,
⟨(some 60), none, (.p (.fieldAt 0 (.tmp 59))), 2, []⟩,
⟨(some 61), none, (.r (.load 1 false (.tmp 60))), 3, []⟩,
⟨(some 62), none, (.p (.fieldAt 1 (.tmp 8))), 4, []⟩,
⟨(some 63), none, (.r (.load 1 false (.tmp 62))), 5, []⟩,
⟨(some 64), none, (.r (.lookup (.one .str) (.int .i64 0) true (.tmp 61) (.tmp 63))), 6, []⟩,
⟨(some 57), none, (.p (.mv (.tmp 64))), 7, []⟩,
⟨(some 65), none, (.p (.ext (.tmp 57) 0)), 8, []⟩,
⟨(some 66), none, (.p (.ext (.tmp 57) 1)), 9, []⟩,
⟨(some 9), none, (.p (.mv (.tmp 65))), 10, []⟩,
⟨(some 10), none, (.p (.mv (.tmp 66))), 11, []⟩])
(.seq
(.draw [⟨(some 67), none, (.p (.mv (.tmp 10))), 0, []⟩,
⟨(some 68), none, (.p (.mv (.tmp 67))), 1, []⟩,
⟨(some 69), (some (68, false)), (.p (.fieldAt 1 (.tmp 6))), 2, []⟩,
⟨(some 70), (some (68, false)), (.r (.load 1 false (.tmp 69))), 3, []⟩,
⟨(some 71), (some (68, false)), (.p (.mv (.tmp 7))), 4, []⟩,
⟨(some 72), (some (68, false)), (.p (.subSl 1 (.tmp 70) none (some (.tmp 71)))), 5, []⟩,
⟨(some 73), (some (68, false)), (.p (.fieldAt 1 (.tmp 8))), 6, []⟩,
⟨(some 74), (some (68, false)), (.r (.load 1 false (.tmp 73))), 7, []⟩,
⟨(some 75), (some (68, false)), (.h (.call (.c (.fn 39 [] [])) [(.tmp 72), (.tmp 74)])), 8, []⟩,
⟨(some 76), none, (.p (.pick (.tmp 68) (.c (.bool true)) (.tmp 75))), 9, []⟩,
⟨(some 77), none, (.p (.mv (.tmp 76))), 10, []⟩,
⟨(some 78), (some (77, false)), (.r (.load 1 false (.glob 0))), 11, []⟩,
⟨(some 79), (some (77, false)), (.p (.fieldAt 1 (.tmp 8))), 12, []⟩,
⟨(some 80), (some (77, false)), (.r (.load 1 false (.tmp 79))), 13, []⟩,
⟨(some 81), (some (77, false)), (.h (.call (.c (.fn 39 [] [])) [(.tmp 78), (.tmp 80)])), 14, []⟩,
⟨(some 82), none, (.p (.pick (.tmp 77) (.c (.bool true)) (.tmp 81))), 15, []⟩])
(.cond (.tmp 82)
(.ops [⟨(some 83), none, (.p (.mv (.tmp 0))), 0, []⟩,
⟨(some 84), none, (.p (.fieldAt 2 (.tmp 8))), 0, []⟩,
⟨(some 85), none, (.r (.load 1 false (.tmp 84))), 0, []⟩,
⟨(some 86), none, (.h (.call (.c (.fn 53 [] [])) [(.tmp 83), (.tmp 85), (.c (.int .i64 11))])), 0, []⟩])
.skip)))))
(.ops [⟨(some 87), none, (.p (.bin .add (.tmp 52) (.c (.int .i64 1)))), 0, []⟩,
⟨(some 52), none, (.p (.mv (.tmp 87))), 0, []⟩])))))))
(.ops [⟨(some 88), none, (.p (.mv (.tmp 0))), 0, []⟩,
⟨(some 89), none, (.p (.mv (.tmp 2))), 0, []⟩,
⟨(some 90), none, (.p (.fieldAt 3 (.tmp 6))), 0, []⟩,
⟨(some 91), none, (.r (.load 4 true (.tmp 90))), 0, []⟩,
⟨(some 92), none, (.p (.build [(.bool false), (.bool false), (.bool false)] [(1, (1, (.c (.bool true))))])), 0, []⟩,
⟨(some 93), none, (.h (.call (.c (.fn 52 [] [])) [(.tmp 88), (.tmp 89), (.tmp 91), (.tmp 92)])), 0, []⟩]))))))⟩
theorem c32 : Mir.compF Tryz.prog Tryz.f32 = some g32 := by kernel_rfl
/-- scribe/ast.All$1 -/
def g33 : Mir.Fn := ⟨6, [],
(.ops [⟨(some 3), none, (.r (.load 4 true (.tmp 1))), 0, []⟩,
⟨(some 4), none, (.p (.mv (.tmp 0))), 0, []⟩,
⟨(some 5), none, (.h (.call (.c (.fn 34 [] [])) [(.tmp 3), (.c (.int .i64 0)), (.tmp 4)])), 0, []⟩])⟩
theorem c33 : Mir.compF Tryz.prog Tryz.f33 = some g33 := by kernel_rfl
/-- scribe/ast.walk -/
def g34 : Mir.Fn := ⟨28, [(.tmp 6)],
(.seq
(.ops [⟨(some 3), none, (.a (.box (.tmp 0))), 0, []⟩,
⟨(some 6), none, (.p (.mv (.c (.bool false)))), 0, []⟩])
(.seq
(.seq
(.ops [⟨(some 9), none, (.p (.mv (.tmp 2))), 0, []⟩,
⟨(some 10), none, (.p (.mv (.tmp 1))), 0, []⟩,
⟨(some 11), none, (.r (.load 4 true (.tmp 3))), 0, []⟩,
⟨(some 12), none, (.h (.call (.tmp 9) [(.tmp 10), (.tmp 11)])), 0, []⟩,
⟨(some 13), none, (.p (.un .not (.tmp 12))), 0, []⟩])
(.cond (.tmp 13)
(.seq
(.ops [⟨(some 6), none, (.p (.mv (.c (.bool false)))), 0, []⟩])
.ret)
.skip))
(.seq
(.seq
(.ops [⟨(some 14), none, (.p (.fieldAt 3 (.tmp 3))), 0, []⟩,
⟨(some 15), none, (.r (.load 1 false (.tmp 14))), 0, []⟩,
⟨(some 16), none, (.p (.lenSl (.tmp 15))), 0, []⟩,
⟨(some 17), none, (.p (.mv (.c (.int .i64 0)))), 0, []⟩])
(.block 0 (.loop (.seq
(.ops [⟨(some 18), none, (.p (.bin .lss (.tmp 17) (.tmp 16))), 0, []⟩])
(.seq
(.cond (.tmp 18)
.skip
(.exit 0))
(.seq
(.block 1 (.seq
(.ops [⟨(some 19), none, (.p (.idxSl 4 (.tmp 15) (.tmp 17))), 0, []⟩,
⟨(some 20), none, (.r (.load 4 true (.tmp 19))), 0, []⟩,
⟨(some 8), none, (.a (.alloc [(.str []), (.str []), (.int .i64 0), .nilsl])), 0, []⟩,
⟨none, none, (.h (.store 4 (.tmp 8) (.tmp 20))), 0, []⟩])
(.seq
(.ops [⟨(some 21), none, (.r (.load 4 true (.tmp 8))), 0, []⟩,
⟨(some 22), none, (.p (.mv (.tmp 1))), 0, []⟩,
⟨(some 23), none, (.p (.bin .add (.tmp 22) (.c (.int .i64 1)))), 0, []⟩,
⟨(some 24), none, (.p (.mv (.tmp 2))), 0, []⟩,
⟨(some 25), none, (.h (.call (.c (.fn 34 [] [])) [(.tmp 21), (.tmp 23), (.tmp 24)])), 0, []⟩,
⟨(some 26), none, (.p (.un .not (.tmp 25))), 0, []⟩])
(.cond (.tmp 26)
(.seq
(.ops [⟨(some 6), none, (.p (.mv (.c (.bool false)))), 0, []⟩])
.ret)
.skip))))
(.ops [⟨(some 27), none, (.p (.bin .add (.tmp 17) (.c (.int .i64 1)))), 0, []⟩,
⟨(some 17), none, (.p (.mv (.tmp 27))), 0, []⟩])))))))
(.seq
(.ops [⟨(some 6), none, (.p (.mv (.c (.bool true)))), 0, []⟩])
.ret))))⟩
theorem c34 : Mir.compF Tryz.prog Tryz.f34 = some g34 := by kernel_rfl
/-- scribe/ast.Print -/
def g35 : Mir.Fn := ⟨7, [(.tmp 2)],
(.seq
(.ops [⟨(some 1), none, (.a (.box (.tmp 0))), 0, []⟩,
⟨(some 2), none, (.p (.mv (.c (.str [])))), 0, []⟩])
(.seq
(.ops [⟨(some 3), none, (.a (.allocW [.nilptr, .nilsl])), 0, []⟩])
(.seq
(.ops [⟨(some 4), none, (.r (.load 4 true (.tmp 1))), 0, []⟩,
⟨(some 5), none, (.h (.call (.c (.fn 54 [] [])) [(.tmp 3), (.tmp 4)])), 0, []⟩])
(.seq
(.ops [⟨(some 6), none, (.h (.call (.c (.fn 55 [] [])) [(.tmp 3)])), 0, []⟩,
⟨(some 2), none, (.p (.mv (.tmp 6))), 0, []⟩])
.ret))))⟩
theorem c35 : Mir.compF Tryz.prog Tryz.f35 = some g35 := by kernel_rfl
/-- slices.EqualFunc[[]scribe/ast.Node,[]scribe/ast.Node,scribe/ast.Node,scribe/ast.Node] -/
def g36 : Mir.Fn := ⟨32, [(.tmp 6)],
(.seq
(.ops [⟨(some 6), none, (.p (.mv (.c (.bool false)))), 0, []⟩])
(.seq
(.seq
(.ops [⟨(some 10), none, (.p (.mv (.tmp 0))), 0, []⟩,
⟨(some 11), none, (.p (.lenSl (.tmp 10))), 0, []⟩,
⟨(some 12), none, (.p (.mv (.tmp 1))), 0, []⟩,
⟨(some 13), none, (.p (.lenSl (.tmp 12))), 0, []⟩,
⟨(some 14), none, (.p (.bin .neq (.tmp 11) (.tmp 13))), 0, []⟩])
(.cond (.tmp 14)
(.seq
(.ops [⟨(some 6), none, (.p (.mv (.c (.bool false)))), 0, []⟩])
.ret)
.skip))
(.seq
(.seq
(.ops [⟨(some 15), none, (.p (.mv (.tmp 0))), 0, []⟩,
⟨(some 16), none, (.p (.lenSl (.tmp 15))), 0, []⟩,
⟨(some 17), none, (.p (.mv (.c (.int .i64 0)))), 0, []⟩])
(.block 0 (.loop (.seq
(.ops [⟨(some 18), none, (.p (.bin .lss (.tmp 17) (.tmp 16))), 0, []⟩])
(.seq
(.cond (.tmp 18)
.skip
(.exit 0))
(.seq
(.block 1 (.seq
(.ops [⟨(some 19), none, (.p (.mv (.tmp 17))), 0, []⟩,
⟨(some 20), none, (.p (.idxSl 4 (.tmp 15) (.tmp 17))), 0, []⟩,
⟨(some 21), none, (.r (.load 4 true (.tmp 20))), 0, []⟩,
⟨(some 8), none, (.a (.alloc [(.str []), (.str []), (.int .i64 0), .nilsl])), 0, []⟩,
⟨(some 7), none, (.p (.mv (.tmp 19))), 0, []⟩,
⟨none, none, (.h (.store 4 (.tmp 8) (.tmp 21))), 0, []⟩])
(.seq
(.ops [⟨(some 22), none, (.p (.mv (.tmp 1))), 0, []⟩,
⟨(some 23), none, (.p (.mv (.tmp 7))), 0, []⟩,
⟨(some 24), none, (.p (.idxSl 4 (.tmp 22) (.tmp 23))), 0, []⟩,
⟨(some 25), none, (.r (.load 4 true (.tmp 24))), 0, []⟩,
⟨(some 9), none, (.a (.alloc [(.str []), (.str []), (.int .i64 0), .nilsl])), 0, []⟩,
⟨none, none, (.h (.store 4 (.tmp 9) (.tmp 25))), 0, []⟩])
(.seq
(.ops [⟨(some 26), none, (.p (.mv (.tmp 2))), 0, []⟩,
⟨(some 27), none, (.r (.load 4 true (.tmp 8))), 0, []⟩,
⟨(some 28), none, (.r (.load 4 true (.tmp 9))), 0, []⟩,
⟨(some 29), none, (.h (.call (.tmp 26) [(.tmp 27), (.tmp 28)])), 0, []⟩,
⟨(some 30), none, (.p (.un .not (.tmp 29))), 0, []⟩])
(.cond (.tmp 30)
(.seq
(.ops [⟨(some 6), none, (.p (.mv (.c (.bool false)))), 0, []⟩])
.ret)
.skip)))))
(.ops [⟨(some 31), none, (.p (.bin .add (.tmp 17) (.c (.int .i64 1)))), 0, []⟩,
⟨(some 17), none, (.p (.mv (.tmp 31))), 0, []⟩])))))))
(.seq
(.ops [⟨(some 6), none, (.p (.mv (.c (.bool true)))), 0, []⟩])
.ret))))⟩
theorem c36 : Mir.compF Tryz.prog Tryz.f36 = some g36 := by kernel_rfl
/-- (*scribe/lex.lexer).next -/
def g37 : Mir.Fn := ⟨96, [(.tmp 2)],
(.seq
(.ops [⟨(some 2), none, (.p (.mv (.c (.int .i64 0)))), 0, []⟩])
(.seq
(.draw [⟨(some 4), none, (.p (.mv (.tmp 0))), 0, []⟩,
⟨(some 5), none, (.p (.nilchk (.tmp 4))), 1, []⟩,
⟨(some 6), none, (.p (.fieldAt 0 (.tmp 5))), 2, []⟩,
⟨(some 7), none, (.r (.load 1 false (.tmp 6))), 3, []⟩,
⟨(some 8), none, (.p (.mv (.tmp 0))), 4, []⟩,
⟨(some 9), none, (.p (.nilchk (.tmp 8))), 5, []⟩,
⟨(some 10), none, (.p (.fieldAt 1 (.tmp 9))), 6, []⟩,
⟨(some 11), none, (.r (.load 1 false (.tmp 10))), 7, []⟩,
⟨(some 12), none, (.p (.idxStr (.tmp 7) (.tmp 11))), 8, []⟩,
⟨(some 3), none, (.p (.mv (.tmp 12))), 9, []⟩])
(.seq
(.block 0 (.seq
(.seq
(.ops [⟨(some 16), none, (.p (.mv (.tmp 3))), 0, []⟩,
⟨(some 17), none, (.p (.bin .eql (.tmp 16) (.c (.int .u8 32)))), 0, []⟩,
⟨(some 15), none, (.p (.mv (.tmp 17))), 0, []⟩])
(.cond (.tmp 15)
.skip
(.seq
(.ops [⟨(some 18), none, (.p (.mv (.tmp 3))), 0, []⟩,
⟨(some 19), none, (.p (.bin .eql (.tmp 18) (.c (.int .u8 9)))), 0, []⟩,
⟨(some 15), none, (.p (.mv (.tmp 19))), 0, []⟩])
(.cond (.tmp 15)
.skip
(.ops [⟨(some 20), none, (.p (.mv (.tmp 3))), 0, []⟩,
⟨(some 21), none, (.p (.bin .eql (.tmp 20) (.c (.int .u8 13)))), 0, []⟩,
⟨(some 15), none, (.p (.mv (.tmp 21))), 0, []⟩])))))
(.cond (.tmp 15)
(.ops [⟨(some 22), none, (.p (.mv (.tmp 0))), 0, []⟩,
⟨(some 23), none, (.p (.nilchk (.tmp 22))), 0, []⟩,
⟨(some 24), none, (.p (.fieldAt 1 (.tmp 23))), 0, []⟩,
⟨(some 25), none, (.r (.load 1 false (.tmp 24))), 0, []⟩,
⟨(some 26), none, (.p (.bin .add (.tmp 25) (.c (.int .i64 1)))), 0, []⟩,
⟨(some 27), none, (.p (.nilchk (.tmp 22))), 0, []⟩,
⟨(some 28), none, (.p (.fieldAt 1 (.tmp 27))), 0, []⟩,
⟨none, none, (.h (.store 1 (.tmp 28) (.tmp 26))), 0, []⟩])
(.seq
(.ops [⟨(some 30), none, (.p (.mv (.tmp 3))), 0, []⟩,
⟨(some 31), none, (.p (.bin .eql (.tmp 30) (.c (.int .u8 35)))), 0, []⟩,
⟨(some 29), none, (.p (.mv (.tmp 31))), 0, []⟩])
(.cond (.tmp 29)
(.ops [⟨(some 32), none, (.p (.mv (.tmp 0))), 0, []⟩,
⟨(some 33), none, (.h (.call (.c (.fn 56 [] [])) [(.tmp 32), (.c (.fn 57 [] []))])), 0, []⟩])
(.seq
(.ops [⟨(some 35), none, (.p (.mv (.tmp 3))), 0, []⟩,
⟨(some 36), none, (.p (.bin .eql (.tmp 35) (.c (.int .u8 92)))), 0, []⟩,
⟨(some 37), none, (.p (.mv (.tmp 36))), 0, []⟩,
⟨(some 38), (some (37, true)), (.p (.mv (.tmp 0))), 0, []⟩,
⟨(some 39), (some (37, true)), (.h (.call (.c (.fn 58 [] [])) [(.tmp 38), (.c (.int .i64 1))])), 0, []⟩,
⟨(some 40), (some (37, true)), (.p (.bin .eql (.tmp 39) (.c (.int .u8 10)))), 0, []⟩,
⟨(some 41), none, (.p (.pick (.tmp 37) (.tmp 40) (.c (.bool false)))), 0, []⟩,
⟨(some 34), none, (.p (.mv (.tmp 41))), 0, []⟩])
(.cond (.tmp 34)
(.ops [⟨(some 42), none, (.p (.mv (.tmp 0))), 0, []⟩,
⟨(some 43), none, (.p (.nilchk (.tmp 42))), 0, []⟩,
⟨(some 44), none, (.p (.fieldAt 1 (.tmp 43))), 0, []⟩,
⟨(some 45), none, (.r (.load 1 false (.tmp 44))), 0, []⟩,
⟨(some 46), none, (.p (.bin .add (.tmp 45) (.c (.int .i64 2)))), 0, []⟩,
⟨(some 47), none, (.p (.nilchk (.tmp 42))), 0, []⟩,
⟨(some 48), none, (.p (.fieldAt 1 (.tmp 47))), 0, []⟩,
⟨none, none, (.h (.store 1 (.tmp 48) (.tmp 46))), 0, []⟩])
(.seq
(.ops [⟨(some 50), none, (.p (.mv (.tmp 3))), 0, []⟩,
⟨(some 51), none, (.p (.bin .eql (.tmp 50) (.c (.int .u8 10)))), 0, []⟩,
⟨(some 49), none, (.p (.mv (.tmp 51))), 0, []⟩])
(.cond (.tmp 49)
(.seq
(.ops [⟨(some 52), none, (.p (.mv (.tmp 0))), 0, []⟩,
⟨(some 53), none, (.p (.mv (.tmp 0))), 0, []⟩,
⟨(some 54), none, (.p (.nilchk (.tmp 53))), 0, []⟩,
⟨(some 55), none, (.p (.fieldAt 1 (.tmp 54))), 0, []⟩,
⟨(some 56), none, (.r (.load 1 false (.tmp 55))), 0, []⟩,
⟨(some 57), none, (.h (.call (.c (.fn 38 [] [])) [(.tmp 52), (.c (.int .i64 1)), (.c (.str [])), (.tmp 56)])), 0, []⟩])
(.ops [⟨(some 58), none, (.p (.mv (.tmp 0))), 0, []⟩,
⟨(some 59), none, (.p (.nilchk (.tmp 58))), 0, []⟩,
⟨(some 60), none, (.p (.fieldAt 1 (.tmp 59))), 0, []⟩,
⟨(some 61), none, (.r (.load 1 false (.tmp 60))), 0, []⟩,
⟨(some 62), none, (.p (.bin .add (.tmp 61) (.c (.int .i64 1)))), 0, []⟩,
⟨(some 63), none, (.p (.nilchk (.tmp 58))), 0, []⟩,
⟨(some 64), none, (.p (.fieldAt 1 (.tmp 63))), 0, []⟩,
⟨none, none, (.h (.store 1 (.tmp 64) (.tmp 62))), 0, []⟩]))
(.seq
(.seq
(.ops [⟨(some 66), none, (.p (.mv (.tmp 3))), 0, []⟩,
⟨(some 67), none, (.h (.call (.c (.fn 59 [] [])) [(.tmp 66)])), 0, []⟩,
⟨(some 65), none, (.p (.mv (.tmp 67))), 0, []⟩])
(.cond (.tmp 65)
.skip
(.ops [⟨(some 68), none, (.p (.mv (.tmp 3))), 0, []⟩,
⟨(some 69), none, (.p (.bin .eql (.tmp 68) (.c (.int .u8 46)))), 0, []⟩,
⟨(some 70), none, (.p (.mv (.tmp 69))), 0, []⟩,
⟨(some 71), (some (70, true)), (.p (.mv (.tmp 0))), 0, []⟩,
⟨(some 72), (some (70, true)), (.h (.call (.c (.fn 58 [] [])) [(.tmp 71), (.c (.int .i64 1))])), 0, []⟩,
⟨(some 73), (some (70, true)), (.h (.call (.c (.fn 59 [] [])) [(.tmp 72)])), 0, []⟩,
⟨(some 74), none, (.p (.pick (.tmp 70) (.tmp 73) (.c (.bool false)))), 0, []⟩,
⟨(some 65), none, (.p (.mv (.tmp 74))), 0, []⟩])))
(.cond (.tmp 65)
(.ops [⟨(some 75), none, (.p (.mv (.tmp 0))), 0, []⟩,
⟨(some 76), none, (.h (.call (.c (.fn 60 [] [])) [(.tmp 75)])), 0, []⟩])
(.seq
(.ops [⟨(some 78), none, (.p (.mv (.tmp 3))), 0, []⟩,
⟨(some 79), none, (.h (.call (.c (.fn 61 [] [])) [(.tmp 78)])), 0, []⟩,
⟨(some 77), none, (.p (.mv (.tmp 79))), 0, []⟩])
(.cond (.tmp 77)
(.ops [⟨(some 80), none, (.p (.mv (.tmp 0))), 0, []⟩,
⟨(some 81), none, (.h (.call (.c (.fn 62 [] [])) [(.tmp 80)])), 0, []⟩])
(.seq
(.ops [⟨(some 83), none, (.p (.mv (.tmp 3))), 0, []⟩,
⟨(some 84), none, (.p (.bin .eql (.tmp 83) (.c (.int .u8 34)))), 0, []⟩,
⟨(some 82), none, (.p (.mv (.tmp 84))), 0, []⟩])
(.cond (.tmp 82)
(.seq
(.ops [⟨(some 85), none, (.p (.mv (.tmp 0))), 0, []⟩,
⟨(some 86), none, (.h (.call (.c (.fn 63 [] [])) [(.tmp 85), (.c (.int .i64 3)), (.c (.int .u8 34)), (.c (.fn 64 [] []))])), 0, []⟩,
⟨(some 2), none, (.p (.mv (.tmp 86))), 0, []⟩])
.ret)
(.seq
(.ops [⟨(some 88), none, (.p (.mv (.tmp 3))), 0, []⟩,
⟨(some 89), none, (.p (.bin .eql (.tmp 88) (.c (.int .u8 47)))), 0, []⟩,
⟨(some 90), none, (.p (.mv (.tmp 89))), 0, []⟩,
⟨(some 91), (some (90, true)), (.p (.mv (.tmp 0))), 0, []⟩,
⟨(some 92), (some (90, true)), (.h (.call (.c (.fn 65 [] [])) [(.tmp 91)])), 0, []⟩,
⟨(some 93), none, (.p (.pick (.tmp 90) (.tmp 92) (.c (.bool false)))), 0, []⟩,
⟨(some 87), none, (.p (.mv (.tmp 93))), 0, []⟩])
(.cond (.tmp 87)
(.seq
(.ops [⟨(some 94), none, (.p (.mv (.tmp 0))), 0, []⟩,
⟨(some 95), none, (.h (.call (.c (.fn 63 [] [])) [(.tmp 94), (.c (.int .i64 4)), (.c (.int .u8 47)), (.c (.fn 66 [] []))])), 0, []⟩,
⟨(some 2), none, (.p (.mv (.tmp 95))), 0, []⟩])
.ret)
(.seq
(.ops [⟨(some 13), none, (.p (.mv (.tmp 0))), 0, []⟩,
⟨(some 14), none, (.h (.call (.c (.fn 67 [] [])) [(.tmp 13)])), 0, []⟩,
⟨(some 2), none, (.p (.mv (.tmp 14))), 0, []⟩])
.ret))))))))))))))))))
(.seq
(.ops [⟨(some 2), none, (.p (.mv (.c (.int .i64 0)))), 0, []⟩])
.ret))))⟩
theorem c37 : Mir.compF Tryz.prog Tryz.f37 = some g37 := by kernel_rfl
/-- (*scribe/lex.lexer).put -/
def g38 : Mir.Fn := ⟨21, [],
(.ops [⟨(some 8), none, (.p (.mv (.tmp 0))), 0, []⟩,
⟨(some 9), none, (.p (.mv (.tmp 0))), 0, []⟩,
⟨(some 10), none, (.p (.nilchk (.tmp 9))), 0, []⟩,
⟨(some 11), none, (.p (.fieldAt 2 (.tmp 10))), 0, []⟩,
⟨(some 12), none, (.r (.load 1 false (.tmp 11))), 0, []⟩,
⟨(some 13), none, (.p (.mv (.tmp 1))), 0, []⟩,
⟨(some 14), none, (.p (.mv (.tmp 2))), 0, []⟩,
⟨(some 15), none, (.p (.mv (.tmp 3))), 0, []⟩,
⟨(some 16), none, (.p (.build [(.int .i64 0), (.str []), (.int .i64 0)] [(0, (1, (.tmp 13))), (1, (1, (.tmp 14))), (2, (1, (.tmp 15)))])), 0, []⟩,
⟨(some 17), none, (.a (.mkSl [(.int .i64 0), (.str []), (.int .i64 0)] 3 1 [(0, (3, (.tmp 16)))])), 0, []⟩,
⟨(some 18), none, (.h (.app 3 32 (.tmp 12) (.tmp 17))), 0, []⟩,
⟨(some 19), none, (.p (.nilchk (.tmp 8))), 0, []⟩,
⟨(some 20), none, (.p (.fieldAt 2 (.tmp 19))), 0, []⟩,
⟨none, none, (.h (.store 1 (.tmp 20) (.tmp 18))), 0, []⟩])⟩
theorem c38 : Mir.compF Tryz.prog Tryz.f38 = some g38 := by kernel_rfl
/-- slices.Contains[[]string,string] -/
def g39 : Mir.Fn := ⟨9, [(.tmp 4)],
(.seq
(.ops [⟨(some 4), none, (.p (.mv (.c (.bool false)))), 0, []⟩])
(.seq
(.ops [⟨(some 5), none, (.p (.mv (.tmp 0))), 0, []⟩,
⟨(some 6), none, (.p (.mv (.tmp 1))), 0, []⟩,
⟨(some 7), none, (.h (.call (.c (.fn 68 [] [])) [(.tmp 5), (.tmp 6)])), 0, []⟩,
⟨(some 8), none, (.p (.bin .geq (.tmp 7) (.c (.int .i64 0)))), 0, []⟩,
⟨(some 4), none, (.p (.mv (.tmp 8))), 0, []⟩])
.ret))⟩
theorem c39 : Mir.compF Tryz.prog Tryz.f39 = some g39 := by kernel_rfl
/-- (*scribe/parse.parser).accept -/
def g40 : Mir.Fn := ⟨12, [(.tmp 4)],
(.seq
(.ops [⟨(some 4), none, (.p (.mv (.c (.bool false)))), 0, []⟩])
(.seq
(.seq
(.ops [⟨(some 5), none, (.p (.mv (.tmp 0))), 0, []⟩,
⟨(some 6), none, (.p (.mv (.tmp 1))), 0, []⟩,
⟨(some 7), none, (.a (.mkSl [(.str [])] 1 1 [(0, (1, (.tmp 6)))])), 0, []⟩,
⟨(some 8), none, (.h (.call (.c (.fn 26 [] [])) [(.tmp 5), (.tmp 7)])), 0, []⟩,
⟨(some 9), none, (.p (.un .not (.tmp 8))), 0, []⟩])
(.cond (.tmp 9)
(.seq
(.ops [⟨(some 4), none, (.p (.mv (.c (.bool false)))), 0, []⟩])
.ret)
.skip))
(.seq
(.ops [⟨(some 10), none, (.p (.mv (.tmp 0))), 0, []⟩,
⟨(some 11), none, (.h (.call (.c (.fn 28 [] [])) [(.tmp 10)])), 0, []⟩])
(.seq
(.ops [⟨(some 4), none, (.p (.mv (.c (.bool true)))), 0, []⟩])
.ret))))⟩
theorem c40 : Mir.compF Tryz.prog Tryz.f40 = some g40 := by kernel_rfl
/-- (*scribe/parse.parser).block -/
def g41 : Mir.Fn := ⟨33, [(.cell 2 4 true)],
(.seq
(.ops [⟨(some 2), none, (.a (.alloc [(.str []), (.str []), (.int .i64 0), .nilsl])), 0, []⟩])
(.seq
(.ops [⟨(some 4), none, (.h (.call (.c (.fn 25 [] [])) [(.c (.str [98, 108, 111, 99, 107])), (.c .nilsl)])), 0, []⟩,
⟨(some 3), none, (.a (.alloc [(.str []), (.str []), (.int .i64 0), .nilsl])), 0, []⟩,
⟨none, none, (.h (.store 4 (.tmp 3) (.tmp 4))), 0, []⟩])
(.seq
(.ops [⟨(some 5), none, (.p (.mv (.tmp 0))), 0, []⟩,
⟨(some 6), none, (.h (.call (.c (.fn 44 [] [])) [(.tmp 5), (.c (.str [123]))])), 0, []⟩])
(.seq
(.block 0 (.loop (.seq
(.seq
(.ops [⟨(some 7), none, (.p (.mv (.tmp 0))), 0, []⟩,
⟨(some 8), none, (.p (.nilchk (.tmp 7))), 0, []⟩,
⟨(some 9), none, (.p (.fieldAt 4 (.tmp 8))), 0, []⟩,
⟨(some 10), none, (.r (.load 1 false (.tmp 9))), 0, []⟩,
⟨(some 11), none, (.p (.bin .eql (.tmp 10) (.c (.int .i64 0)))), 0, []⟩])
(.cond (.tmp 11)
.skip
(.exit 0)))
(.block 1 (.seq
(.block 2 (.loop (.seq
(.seq
(.ops [⟨(some 12), none, (.p (.mv (.tmp 0))), 0, []⟩,
⟨(some 13), none, (.a (.mkSl [(.str [])] 1 1 [(0, (1, (.c (.str [59]))))])), 0, []⟩,
⟨(some 14), none, (.h (.call (.c (.fn 26 [] [])) [(.tmp 12), (.tmp 13)])), 0, []⟩,
⟨(some 15), none, (.p (.mv (.tmp 14))), 0, []⟩,
⟨(some 16), (some (15, false)), (.p (.mv (.tmp 0))), 0, []⟩,
⟨(some 17), (some (15, false)), (.h (.call (.c (.fn 27 [] [])) [(.tmp 16)])), 0, []⟩,
⟨(some 18), (some (15, false)), (.p (.field 0 1 false (.tmp 17))), 0, []⟩,
⟨(some 19), (some (15, false)), (.p (.bin .eql (.tmp 18) (.c (.int .i64 1)))), 0, []⟩,
⟨(some 20), none, (.p (.pick (.tmp 15) (.c (.bool true)) (.tmp 19))), 0, []⟩])
(.cond (.tmp 20)
.skip
(.exit 2)))
(.block 3 (.ops [⟨(some 21), none, (.p (.mv (.tmp 0))), 0, []⟩,
⟨(some 22), none, (.h (.call (.c (.fn 28 [] [])) [(.tmp 21)])), 0, []⟩])))))
(.seq
(.seq
(.ops [⟨(some 23), none, (.p (.mv (.tmp 0))), 0, []⟩,
⟨(some 24), none, (.h (.call (.c (.fn 40 [] [])) [(.tmp 23), (.c (.str [125]))])), 0, []⟩])
(.cond (.tmp 24)
(.exit 0)
.skip))
(.draw [⟨(some 25), none, (.p (.fieldAt 3 (.tmp 3))), 0, []⟩,
⟨(some 26), none, (.r (.load 1 false (.tmp 25))), 1, []⟩,
⟨(some 27), none, (.p (.mv (.tmp 0))), 2, []⟩,
⟨(some 28), none, (.h (.call (.c (.fn 69 [] [])) [(.tmp 27)])), 3, [1]⟩,
⟨(some 29), none, (.a (.mkSl [(.str []), (.str []), (.int .i64 0), .nilsl] 4 1 [(0, (4, (.tmp 28)))])), 4, []⟩,
⟨(some 30), none, (.h (.app 4 64 (.tmp 26) (.tmp 29))), 5, []⟩,
⟨(some 31), none, (.p (.fieldAt 3 (.tmp 3))), 6, []⟩,
⟨none, none, (.h (.store 1 (.tmp 31) (.tmp 30))), 7, []⟩])))))))
(.seq
(.ops [⟨(some 32), none, (.r (.load 4 true (.tmp 3))), 0, []⟩,
⟨none, none, (.h (.store 4 (.tmp 2) (.tmp 32))), 0, []⟩])
.ret)))))⟩
theorem c41 : Mir.compF Tryz.prog Tryz.f41 = some g41 := by kernel_rfl
/-- scribe/parse.leaf -/
def g42 : Mir.Fn := ⟨14, [(.cell 6 4 true)],
(.seq
(.ops [⟨(some 4), none, (.a (.box (.tmp 1))), 0, []⟩,
⟨(some 6), none, (.a (.alloc [(.str []), (.str []), (.int .i64 0), .nilsl])), 0, []⟩])
(.seq
(.ops [⟨(some 7), none, (.p (.mv (.tmp 0))), 0, []⟩,
⟨(some 8), none, (.p (.fieldAt 1 (.tmp 4))), 0, []⟩,
⟨(some 9), none, (.r (.load 1 false (.tmp 8))), 0, []⟩,
⟨(some 10), none, (.p (.fieldAt 2 (.tmp 4))), 0, []⟩,
⟨(some 11), none, (.r (.load 1 false (.tmp 10))), 0, []⟩,
⟨(some 12), none, (.p (.mv (.tmp 2))), 0, []⟩,
⟨(some 13), none, (.p (.build [(.str []), (.str []), (.int .i64 0), .nilsl] [(0, (1, (.tmp 7))), (1, (1, (.tmp 9))), (2, (1, (.tmp 11))), (3, (1, (.tmp 12)))])), 0, []⟩,
⟨none, none, (.h (.store 4 (.tmp 6) (.tmp 13))), 0, []⟩])
.ret))⟩
theorem c42 : Mir.compF Tryz.prog Tryz.f42 = some g42 := by kernel_rfl
/-- (*scribe/parse.parser).name -/
def g43 : Mir.Fn := ⟨19, [(.cell 4 3 true)],
(.seq
(.ops [⟨(some 4), none, (.a (.alloc [(.int .i64 0), (.str []), (.int .i64 0)])), 0, []⟩])
(.seq
(.ops [⟨(some 6), none, (.p (.mv (.tmp 0))), 0, []⟩,
⟨(some 7), none, (.h (.call (.c (.fn 27 [] [])) [(.tmp 6)])), 0, []⟩,
⟨(some 5), none, (.a (.alloc [(.int .i64 0), (.str []), (.int .i64 0)])), 0, []⟩,
⟨none, none, (.h (.store 3 (.tmp 5) (.tmp 7))), 0, []⟩])
(.seq
(.seq
(.ops [⟨(some 8), none, (.p (.mv (.tmp 1))), 0, []⟩,
⟨(some 9), none, (.p (.fieldAt 0 (.tmp 5))), 0, []⟩,
⟨(some 10), none, (.r (.load 1 false (.tmp 9))), 0, []⟩,
⟨(some 11), none, (.h (.call (.c (.fn 70 [] [])) [(.tmp 8), (.tmp 10)])), 0, []⟩,
⟨(some 12), none, (.p (.un .not (.tmp 11))), 0, []⟩])
(.cond (.tmp 12)
(.seq
(.ops [⟨(some 13), none, (.p (.mv (.tmp 0))), 0, []⟩,
⟨(some 14), none, (.h (.call (.c (.fn 47 [] [])) [(.tmp 13)])), 0, []⟩])
(.seq
(.ops [⟨(some 15), none, (.p (.build [(.int .i64 0), (.str []), (.int .i64 0)] [])), 0, []⟩,
⟨none, none, (.h (.store 3 (.tmp 4) (.tmp 15))), 0, []⟩])
.ret))
.skip))
(.seq
(.ops [⟨(some 16), none, (.p (.mv (.tmp 0))), 0, []⟩,
⟨(some 17), none, (.h (.call (.c (.fn 28 [] [])) [(.tmp 16)])), 0, []⟩])
(.seq
(.ops [⟨(some 18), none, (.r (.load 3 true (.tmp 5))), 0, []⟩,
⟨none, none, (.h (.store 3 (.tmp 4) (.tmp 18))), 0, []⟩])
.ret)))))⟩
theorem c43 : Mir.compF Tryz.prog Tryz.f43 = some g43 := by kernel_rfl
/-- (*scribe/parse.parser).expect -/
def g44 : Mir.Fn := ⟨10, [],
(.seq
(.ops [⟨(some 4), none, (.p (.mv (.tmp 0))), 0, []⟩,
⟨(some 5), none, (.p (.mv (.tmp 1))), 0, []⟩,
⟨(some 6), none, (.h (.call (.c (.fn 40 [] [])) [(.tmp 4), (.tmp 5)])), 0, []⟩,
⟨(some 7), none, (.p (.un .not (.tmp 6))), 0, []⟩])
(.cond (.tmp 7)
(.ops [⟨(some 8), none, (.p (.mv (.tmp 0))), 0, []⟩,
⟨(some 9), none, (.h (.call (.c (.fn 47 [] [])) [(.tmp 8)])), 0, []⟩])
.skip))⟩
theorem c44 : Mir.compF Tryz.prog Tryz.f44 = some g44 := by kernel_rfl
/-- (*scribe/parse.parser).lines -/
def g45 : Mir.Fn := ⟨8, [],
(.block 0 (.loop (.seq
(.seq
(.ops [⟨(some 2), none, (.p (.mv (.tmp 0))), 0, []⟩,
⟨(some 3), none, (.h (.call (.c (.fn 27 [] [])) [(.tmp 2)])), 0, []⟩,
⟨(some 4), none, (.p (.field 0 1 false (.tmp 3))), 0, []⟩,
⟨(some 5), none, (.p (.bin .eql (.tmp 4) (.c (.int .i64 1)))), 0, []⟩])
(.cond (.tmp 5)
.skip
(.exit 0)))
(.block 1 (.ops [⟨(some 6), none, (.p (.mv (.tmp 0))), 0, []⟩,
⟨(some 7), none, (.h (.call (.c (.fn 28 [] [])) [(.tmp 6)])), 0, []⟩])))))⟩
theorem c45 : Mir.compF Tryz.prog Tryz.f45 = some g45 := by kernel_rfl
/-- (*scribe/parse.parser).expr -/
def g46 : Mir.Fn := ⟨56, [(.cell 2 4 true)],
(.seq
(.ops [⟨(some 2), none, (.a (.alloc [(.str []), (.str []), (.int .i64 0), .nilsl])), 0, []⟩])
(.seq
(.ops [⟨(some 6), none, (.p (.mv (.tmp 0))), 0, []⟩,
⟨(some 7), none, (.h (.call (.c (.fn 71 [] [])) [(.tmp 6)])), 0, []⟩])
(.seq
(.ops [⟨(some 8), none, (.p (.mv (.tmp 0))), 0, []⟩,
⟨none, none, (.h (.dfr (.c (.fn 72 [] [])) [(.tmp 8)])), 0, []⟩])
(.seq
(.ops [⟨(some 9), none, (.p (.mv (.tmp 0))), 0, []⟩,
⟨(some 10), none, (.h (.call (.c (.fn 73 [] [])) [(.tmp 9)])), 0, []⟩,
⟨(some 3), none, (.a (.alloc [(.str []), (.str []), (.int .i64 0), .nilsl])), 0, []⟩,
⟨none, none, (.h (.store 4 (.tmp 3) (.tmp 10))), 0, []⟩])
(.seq
(.seq
(.ops [⟨(some 11), none, (.p (.mv (.tmp 0))), 0, []⟩,
⟨(some 12), none, (.h (.call (.c (.fn 40 [] [])) [(.tmp 11), (.c (.str [63]))])), 0, []⟩])
(.cond (.tmp 12)
(.seq
(.ops [⟨(some 13), none, (.p (.mv (.tmp 0))), 0, []⟩,
⟨(some 14), none, (.h (.call (.c (.fn 45 [] [])) [(.tmp 13)])), 0, []⟩])
(.seq
(.ops [⟨(some 15), none, (.p (.mv (.tmp 0))), 0, []⟩,
⟨(some 16), none, (.h (.call (.c (.fn 46 [] [])) [(.tmp 15)])), 0, []⟩,
⟨(some 4), none, (.a (.alloc [(.str []), (.str []), (.int .i64 0), .nilsl])), 0, []⟩,
⟨none, none, (.h (.store 4 (.tmp 4) (.tmp 16))), 0, []⟩])
(.seq
(.ops [⟨(some 17), none, (.p (.mv (.tmp 0))), 0, []⟩,
⟨(some 18), none, (.h (.call (.c (.fn 45 [] [])) [(.tmp 17)])), 0, []⟩])
(.seq
(.ops [⟨(some 19), none, (.p (.mv (.tmp 0))), 0, []⟩,
⟨(some 20), none, (.h (.call (.c (.fn 44 [] [])) [(.tmp 19), (.c (.str [58]))])), 0, []⟩])
(.seq
(.ops [⟨(some 21), none, (.p (.mv (.tmp 0))), 0, []⟩,
⟨(some 22), none, (.h (.call (.c (.fn 45 [] [])) [(.tmp 21)])), 0, []⟩])
(.seq
(.draw [⟨(some 23), none, (.r (.load 4 true (.tmp 3))), 0, []⟩,
⟨(some 24), none, (.r (.load 4 true (.tmp 4))), 1, []⟩,
⟨(some 25), none, (.p (.mv (.tmp 0))), 2, []⟩,
⟨(some 26), none, (.h (.call (.c (.fn 46 [] [])) [(.tmp 25)])), 3, [0, 1]⟩,
⟨(some 27), none, (.a (.mkSl [(.str []), (.str []), (.int .i64 0), .nilsl] 4 3 [(0, (4, (.tmp 23))), (4, (4, (.tmp 24))), (8, (4, (.tmp 26)))])), 4, []⟩,
⟨(some 28), none, (.h (.call (.c (.fn 25 [] [])) [(.c (.str [99, 111, 110, 100])), (.tmp 27)])), 5, []⟩,
⟨none, none, (.h (.store 4 (.tmp 2) (.tmp 28))), 6, []⟩])
.ret))))))
.skip))
(.seq
(.seq
(.ops [⟨(some 29), none, (.p (.mv (.tmp 0))), 0, []⟩,
⟨(some 30), none, (.h (.call (.c (.fn 27 [] [])) [(.tmp 29)])), 0, []⟩,
⟨(some 5), none, (.a (.alloc [(.int .i64 0), (.str []), (.int .i64 0)])), 0, []⟩,
⟨none, none, (.h (.store 3 (.tmp 5) (.tmp 30))), 0, []⟩])
(.seq
(.ops [⟨(some 31), none, (.r (.load 4 true (.tmp 3))), 0, []⟩,
⟨(some 32), none, (.h (.call (.c (.fn 74 [] [])) [(.tmp 31)])), 0, []⟩,
⟨(some 33), none, (.p (.mv (.tmp 32))), 0, []⟩,
⟨(some 34), (some (33, true)), (.p (.fieldAt 0 (.tmp 5))), 0, []⟩,
⟨(some 35), (some (33, true)), (.r (.load 1 false (.tmp 34))), 0, []⟩,
⟨(some 36), (some (33, true)), (.p (.bin .eql (.tmp 35) (.c (.int .i64 8)))), 0, []⟩,
⟨(some 37), none, (.p (.pick (.tmp 33) (.tmp 36) (.c (.bool false)))), 0, []⟩,
⟨(some 38), none, (.p (.mv (.tmp 37))), 0, []⟩,
⟨(some 39), (some (38, true)), (.a (.mkSl [(.str [])] 1 6 [(0, (1, (.c (.str [61])))), (1, (1, (.c (.str [43, 61])))), (2, (1, (.c (.str [45, 61])))), (3, (1, (.c (.str [42, 61])))), (4, (1, (.c (.str [47, 61])))), (5, (1, (.c (.str [37, 61]))))])), 0, []⟩,
⟨(some 40), (some (38, true)), (.p (.fieldAt 1 (.tmp 5))), 0, []⟩,
⟨(some 41), (some (38, true)), (.r (.load 1 false (.tmp 40))), 0, []⟩,
⟨(some 42), (some (38, true)), (.h (.call (.c (.fn 39 [] [])) [(.tmp 39), (.tmp 41)])), 0, []⟩,
⟨(some 43), none, (.p (.pick (.tmp 38) (.tmp 42) (.c (.bool false)))), 0, []⟩])
(.cond (.tmp 43)
(.seq
(.ops [⟨(some 44), none, (.p (.mv (.tmp 0))), 0, []⟩,
⟨(some 45), none, (.h (.call (.c (.fn 28 [] [])) [(.tmp 44)])), 0, []⟩])
(.seq
(.ops [⟨(some 46), none, (.p (.mv (.tmp 0))), 0, []⟩,
⟨(some 47), none, (.h (.call (.c (.fn 45 [] [])) [(.tmp 46)])), 0, []⟩])
(.seq
(.draw [⟨(some 48), none, (.p (.fieldAt 1 (.tmp 5))), 0, []⟩,
⟨(some 49), none, (.r (.load 1 false (.tmp 48))), 1, []⟩,
⟨(some 50), none, (.r (.load 4 true (.tmp 3))), 2, []⟩,
⟨(some 51), none, (.p (.mv (.tmp 0))), 3, []⟩,
⟨(some 52), none, (.h (.call (.c (.fn 46 [] [])) [(.tmp 51)])), 4, [1, 2]⟩,
⟨(some 53), none, (.a (.mkSl [(.str []), (.str []), (.int .i64 0), .nilsl] 4 2 [(0, (4, (.tmp 50))), (4, (4, (.tmp 52)))])), 5, []⟩,
⟨(some 54), none, (.p (.build [(.str []), (.str []), (.int .i64 0), .nilsl] [(0, (1, (.c (.str [97, 115, 115, 105, 103, 110])))), (1, (1, (.tmp 49))), (3, (1, (.tmp 53)))])), 6, []⟩,
⟨none, none, (.h (.store 4 (.tmp 2) (.tmp 54))), 7, []⟩])
.ret)))
.skip)))
(.seq
(.ops [⟨(some 55), none, (.r (.load 4 true (.tmp 3))), 0, []⟩,
⟨none, none, (.h (.store 4 (.tmp 2) (.tmp 55))), 0, []⟩])
.ret)))))))⟩
theorem c46 : Mir.compF Tryz.prog Tryz.f46 = some g46 := by kernel_rfl
/-- (*scribe/parse.parser).fail -/
def g47 : Mir.Fn := ⟨39, [],
(.seq
(.ops [⟨(some 3), none, (.p (.mv (.tmp 0))), 0, []⟩,
⟨(some 4), none, (.h (.call (.c (.fn 27 [] [])) [(.tmp 3)])), 0, []⟩,
⟨(some 2), none, (.a (.alloc [(.int .i64 0), (.str []), (.int .i64 0)])), 0, []⟩,
⟨none, none, (.h (.store 3 (.tmp 2) (.tmp 4))), 0, []⟩])
(.block 0 (.seq
(.ops [⟨(some 14), none, (.p (.mv (.tmp 0))), 0, []⟩,
⟨(some 15), none, (.p (.nilchk (.tmp 14))), 0, []⟩,
⟨(some 16), none, (.p (.fieldAt 4 (.tmp 15))), 0, []⟩,
⟨(some 17), none, (.r (.load 1 false (.tmp 16))), 0, []⟩,
⟨(some 18), none, (.p (.bin .neq (.tmp 17) (.c (.int .i64 0)))), 0, []⟩,
⟨(some 13), none, (.p (.mv (.tmp 18))), 0, []⟩])
(.cond (.tmp 13)
.skip
(.seq
(.seq
(.ops [⟨(some 20), none, (.p (.fieldAt 0 (.tmp 2))), 0, []⟩,
⟨(some 21), none, (.r (.load 1 false (.tmp 20))), 0, []⟩,
⟨(some 22), none, (.p (.bin .eql (.tmp 21) (.c (.int .i64 10)))), 0, []⟩,
⟨(some 19), none, (.p (.mv (.tmp 22))), 0, []⟩])
(.cond (.tmp 19)
.skip
(.ops [⟨(some 23), none, (.p (.fieldAt 0 (.tmp 2))), 0, []⟩,
⟨(some 24), none, (.r (.load 1 false (.tmp 23))), 0, []⟩,
⟨(some 25), none, (.p (.bin .eql (.tmp 24) (.c (.int .i64 8)))), 0, []⟩,
⟨(some 26), none, (.p (.mv (.tmp 25))), 0, []⟩,
⟨(some 27), (some (26, true)), (.p (.fieldAt 1 (.tmp 2))), 0, []⟩,
⟨(some 28), (some (26, true)), (.r (.load 1 false (.tmp 27))), 0, []⟩,
⟨(some 29), (some (26, true)), (.p (.bin .eql (.tmp 28) (.c (.str [124])))), 0, []⟩,
⟨(some 30), none, (.p (.pick (.tmp 26) (.tmp 29) (.c (.bool false)))), 0, []⟩,
⟨(some 19), none, (.p (.mv (.tmp 30))), 0, []⟩])))
(.cond (.tmp 19)
(.draw [⟨(some 31), none, (.p (.mv (.tmp 0))), 0, []⟩,
⟨(some 32), none, (.p (.mv (.tmp 0))), 1, []⟩,
⟨(some 33), none, (.p (.fieldAt 2 (.tmp 2))), 2, []⟩,
⟨(some 34), none, (.r (.load 1 false (.tmp 33))), 3, []⟩,
⟨(some 35), none, (.p (.nilchk (.tmp 31))), 4, []⟩,
⟨(some 36), none, (.p (.fieldAt 4 (.tmp 35))), 5, []⟩,
⟨none, none, (.h (.store 1 (.tmp 36) (.c (.int .i64 10)))), 6, [3]⟩,
⟨(some 37), none, (.p (.nilchk (.tmp 32))), 7, []⟩,
⟨(some 38), none, (.p (.fieldAt 5 (.tmp 37))), 8, []⟩,
⟨none, none, (.h (.store 1 (.tmp 38) (.tmp 34))), 9, []⟩])
(.draw [⟨(some 5), none, (.p (.mv (.tmp 0))), 0, []⟩,
⟨(some 6), none, (.p (.mv (.tmp 0))), 1, []⟩,
⟨(some 7), none, (.p (.fieldAt 2 (.tmp 2))), 2, []⟩,
⟨(some 8), none, (.r (.load 1 false (.tmp 7))), 3, []⟩,
⟨(some 9), none, (.p (.nilchk (.tmp 5))), 4, []⟩,
⟨(some 10), none, (.p (.fieldAt 4 (.tmp 9))), 5, []⟩,
⟨none, none, (.h (.store 1 (.tmp 10) (.c (.int .i64 9)))), 6, [3]⟩,
⟨(some 11), none, (.p (.nilchk (.tmp 6))), 7, []⟩,
⟨(some 12), none, (.p (.fieldAt 5 (.tmp 11))), 8, []⟩,
⟨none, none, (.h (.store 1 (.tmp 12) (.tmp 8))), 9, []⟩])))))))⟩
theorem c47 : Mir.compF Tryz.prog Tryz.f47 = some g47 := by kernel_rfl
/-- (*scribe/resolve.resolver).mark$1 -/
def g48 : Mir.Fn := ⟨18, [],
(.seq
(.ops [⟨(some 3), none, (.a (.box (.tmp 0))), 0, []⟩])
(.seq
(.draw [⟨(some 4), none, (.r (.load 1 false (.tmp 1))), 0, []⟩,
⟨(some 5), none, (.p (.nilchk (.tmp 4))), 1, []⟩,
⟨(some 6), none, (.p (.fieldAt 2 (.tmp 5))), 2, []⟩,
⟨(some 7), none, (.r (.load 1 false (.tmp 6))), 3, []⟩,
⟨(some 8), none, (.r (.load 2 true (.tmp 3))), 4, []⟩,
⟨(some 9), none, (.r (.lookup (.agg [.int, .str]) (.bool false) false (.tmp 7) (.tmp 8))), 5, []⟩,
⟨(some 10), none, (.p (.un .not (.tmp 9))), 6, []⟩])
(.cond (.tmp 10)
(.draw [⟨(some 11), none, (.r (.load 1 false (.tmp 1))), 0, []⟩,
⟨(some 12), none, (.p (.nilchk (.tmp 11))), 1, []⟩,
⟨(some 13), none, (.p (.fieldAt 2 (.tmp 12))), 2, []⟩,
⟨(some 14), none, (.r (.load 1 false (.tmp 13))), 3, []⟩,
⟨(some 15), none, (.r (.load 2 true (.tmp 3))), 4, []⟩,
⟨(some 16), none, (.h (.mapEntry (.agg [.int, .str]) (.bool false) (.tmp 14) (.tmp 15))), 5, []⟩,
⟨(some 17), none, (.p (.ext (.tmp 16) 1)), 6, []⟩,
⟨none, none, (.h (.entryStore (.tmp 14) (.tmp 17) (.c (.bool true)))), 7, []⟩,
⟨none, none, (.h (.store 1 (.tmp 2) (.c (.bool true)))), 8, []⟩])
.skip)))⟩
theorem c48 : Mir.compF Tryz.prog Tryz.f48 = some g48 := by kernel_rfl
/-- (*scribe/resolve.resolver).fn -/
def g49 : Mir.Fn := ⟨15, [(.tmp 4)],
(.seq
(.ops [⟨(some 3), none, (.a (.box (.tmp 1))), 0, []⟩,
⟨(some 4), none, (.p (.mv (.c (.int .i64 0)))), 0, []⟩])
(.seq
(.seq
(.ops [⟨(some 5), none, (.p (.fieldAt 0 (.tmp 3))), 0, []⟩,
⟨(some 6), none, (.r (.load 1 false (.tmp 5))), 0, []⟩,
⟨(some 7), none, (.p (.bin .eql (.tmp 6) (.c (.str [102, 117, 110, 99])))), 0, []⟩])
(.cond (.tmp 7)
(.seq
(.draw [⟨(some 8), none, (.p (.mv (.tmp 0))), 0, []⟩,
⟨(some 9), none, (.p (.nilchk (.tmp 8))), 1, []⟩,
⟨(some 10), none, (.p (.fieldAt 0 (.tmp 9))), 2, []⟩,
⟨(some 11), none, (.r (.load 1 false (.tmp 10))), 3, []⟩,
⟨(some 12), none, (.p (.fieldAt 1 (.tmp 3))), 4, []⟩,
⟨(some 13), none, (.r (.load 1 false (.tmp 12))), 5, []⟩,
⟨(some 14), none, (.r (.lookup (.one .str) (.int .i64 0) false (.tmp 11) (.tmp 13))), 6, []⟩,
⟨(some 4), none, (.p (.mv (.tmp 14))), 7, []⟩])
.ret)
.skip))
(.seq
(.ops [⟨(some 4), none, (.p (.mv (.c (.int .i64 (-1))))), 0, []⟩])
.ret)))⟩
theorem c49 : Mir.compF Tryz.prog Tryz.f49 = some g49 := by kernel_rfl
/-- scribe/resolve.arrayName -/
def g50 : Mir.Fn := ⟨12, [(.tmp 2), (.tmp 3)],
(.seq
(.ops [⟨(some 1), none, (.a (.box (.tmp 0))), 0, []⟩,
⟨(some 2), none, (.p (.mv (.c (.str [])))), 0, []⟩,
⟨(some 3), none, (.p (.mv (.c (.bool false)))), 0, []⟩])
(.seq
(.seq
(.ops [⟨(some 4), none, (.p (.fieldAt 0 (.tmp 1))), 0, []⟩,
⟨(some 5), none, (.r (.load 1 false (.tmp 4))), 0, []⟩])
(.block 0 (.seq
(.seq
(.ops [⟨(some 7), none, (.p (.bin .eql (.tmp 5) (.c (.str [105, 110, 100, 101, 120])))), 0, []⟩,
⟨(some 6), none, (.p (.mv (.tmp 7))), 0, []⟩])
(.cond (.tmp 6)
.skip
(.seq
(.ops [⟨(some 8), none, (.p (.bin .eql (.tmp 5) (.c (.str [105, 110])))), 0, []⟩,
⟨(some 6), none, (.p (.mv (.tmp 8))), 0, []⟩])
(.cond (.tmp 6)
.skip
(.ops [⟨(some 9), none, (.p (.bin .eql (.tmp 5) (.c (.str [110, 97, 109, 101])))), 0, []⟩,
⟨(some 6), none, (.p (.mv (.tmp 9))), 0, []⟩])))))
(.cond (.tmp 6)
(.seq
(.ops [⟨(some 10), none, (.p (.fieldAt 1 (.tmp 1))), 0, []⟩,
⟨(some 11), none, (.r (.load 1 false (.tmp 10))), 0, []⟩,
⟨(some 2), none, (.p (.mv (.tmp 11))), 0, []⟩,
⟨(some 3), none, (.p (.mv (.c (.bool true)))), 0, []⟩])
.ret)
.skip))))
(.seq
(.ops [⟨(some 2), none, (.p (.mv (.c (.str [])))), 0, []⟩,
⟨(some 3), none, (.p (.mv (.c (.bool false)))), 0, []⟩])
.ret)))⟩
theorem c50 : Mir.compF Tryz.prog Tryz.f50 = some g50 := by kernel_rfl
/-- (*scribe/resolve.resolver).symbol -/
def g51 : Mir.Fn := ⟨29, [(.cell 6 2 true)],
(.seq
(.ops [⟨(some 6), none, (.a (.alloc [(.int .i64 0), (.str [])])), 0, []⟩])
(.seq
(.seq
(.ops [⟨(some 7), none, (.p (.mv (.tmp 1))), 0, []⟩,
⟨(some 8), none, (.p (.bin .geq (.tmp 7) (.c (.int .i64 0)))), 0, []⟩,
⟨(some 9), none, (.p (.mv (.tmp 8))), 0, []⟩,
⟨(some 10), (some (9, true)), (.p (.mv (.tmp 0))), 0, []⟩,
⟨(some 11), (some (9, true)), (.p (.nilchk (.tmp 10))), 0, []⟩,
⟨(some 12), (some (9, true)), (.p (.fieldAt 1 (.tmp 11))), 0, []⟩,
⟨(some 13), (some (9, true)), (.r (.load 1 false (.tmp 12))), 0, []⟩,
⟨(some 14), (some (9, true)), (.p (.nilchk (.tmp 13))), 0, []⟩,
⟨(some 15), (some (9, true)), (.p (.fieldAt 0 (.tmp 14))), 0, []⟩,
⟨(some 16), (some (9, true)), (.r (.load 1 false (.tmp 15))), 0, []⟩,
⟨(some 17), (some (9, true)), (.p (.mv (.tmp 1))), 0, []⟩,
⟨(some 18), (some (9, true)), (.p (.idxSl 7 (.tmp 16) (.tmp 17))), 0, []⟩,
⟨(some 19), (some (9, true)), (.p (.fieldAt 1 (.tmp 18))), 0, []⟩,
⟨(some 20), (some (9, true)), (.r (.load 1 false (.tmp 19))), 0, []⟩,
⟨(some 21), (some (9, true)), (.p (.mv (.tmp 2))), 0, []⟩,
⟨(some 22), (some (9, true)), (.h (.call (.c (.fn 39 [] [])) [(.tmp 20), (.tmp 21)])), 0, []⟩,
⟨(some 23), none, (.p (.pick (.tmp 9) (.tmp 22) (.c (.bool false)))), 0, []⟩])
(.cond (.tmp 23)
(.seq
(.ops [⟨(some 24), none, (.p (.mv (.tmp 1))), 0, []⟩,
⟨(some 25), none, (.p (.mv (.tmp 2))), 0, []⟩,
⟨(some 26), none, (.p (.build [(.int .i64 0), (.str [])] [(0, (1, (.tmp 24))), (1, (1, (.tmp 25)))])), 0, []⟩,
⟨none, none, (.h (.store 2 (.tmp 6) (.tmp 26))), 0, []⟩])
.ret)
.skip))
(.seq
(.ops [⟨(some 27), none, (.p (.mv (.tmp 2))), 0, []⟩,
⟨(some 28), none, (.p (.build [(.int .i64 0), (.str [])] [(0, (1, (.c (.int .i64 (-1))))), (1, (1, (.tmp 27)))])), 0, []⟩,
⟨none, none, (.h (.store 2 (.tmp 6) (.tmp 28))), 0, []⟩])
.ret)))⟩
theorem c51 : Mir.compF Tryz.prog Tryz.f51 = some g51 := by kernel_rfl
/-- (*scribe/resolve.resolver).check -/
def g52 : Mir.Fn := ⟨94, [],
(.seq
(.ops [⟨(some 6), none, (.a (.box (.tmp 2))), 0, []⟩,
⟨(some 7), none, (.a (.box (.tmp 3))), 0, []⟩])
(.seq
(.seq
(.ops [⟨(some 10), none, (.p (.mv (.tmp 0))), 0, []⟩,
⟨(some 11), none, (.p (.nilchk (.tmp 10))), 0, []⟩,
⟨(some 12), none, (.p (.fieldAt 5 (.tmp 11))), 0, []⟩,
⟨(some 13), none, (.r (.load 1 false (.tmp 12))), 0, []⟩,
⟨(some 14), none, (.p (.bin .neq (.tmp 13) (.c (.int .i64 0)))), 0, []⟩])
(.cond (.tmp 14)
.ret
.skip))
(.seq
(.seq
(.ops [⟨(some 15), none, (.p (.fieldAt 0 (.tmp 6))), 0, []⟩,
⟨(some 16), none, (.r (.load 1 false (.tmp 15))), 0, []⟩])
(.block 0 (.seq
(.ops [⟨(some 18), none, (.p (.bin .eql (.tmp 16) (.c (.str [118, 97, 114])))), 0, []⟩,
⟨(some 17), none, (.p (.mv (.tmp 18))), 0, []⟩])
(.cond (.tmp 17)
(.ops [⟨(some 19), none, (.p (.mv (.tmp 0))), 0, []⟩,
⟨(some 20), none, (.p (.mv (.tmp 1))), 0, []⟩,
⟨(some 21), none, (.r (.load 4 true (.tmp 6))), 0, []⟩,
⟨(some 22), none, (.h (.call (.c (.fn 75 [] [])) [(.tmp 19), (.tmp 20), (.tmp 21), (.c (.bool false))])), 0, []⟩])
(.seq
(.seq
(.ops [⟨(some 24), none, (.p (.bin .eql (.tmp 16) (.c (.str [105, 110, 100, 101, 120])))), 0, []⟩,
⟨(some 23), none, (.p (.mv (.tmp 24))), 0, []⟩])
(.cond (.tmp 23)
.skip
(.seq
(.ops [⟨(some 25), none, (.p (.bin .eql (.tmp 16) (.c (.str [105, 110])))), 0, []⟩,
⟨(some 23), none, (.p (.mv (.tmp 25))), 0, []⟩])
(.cond (.tmp 23)
.skip
(.ops [⟨(some 26), none, (.p (.bin .eql (.tmp 16) (.c (.str [110, 97, 109, 101])))), 0, []⟩,
⟨(some 23), none, (.p (.mv (.tmp 26))), 0, []⟩])))))
(.cond (.tmp 23)
(.ops [⟨(some 27), none, (.p (.mv (.tmp 0))), 0, []⟩,
⟨(some 28), none, (.p (.mv (.tmp 1))), 0, []⟩,
⟨(some 29), none, (.r (.load 4 true (.tmp 6))), 0, []⟩,
⟨(some 30), none, (.h (.call (.c (.fn 75 [] [])) [(.tmp 27), (.tmp 28), (.tmp 29), (.c (.bool true))])), 0, []⟩])
(.seq
(.ops [⟨(some 32), none, (.p (.bin .eql (.tmp 16) (.c (.str [102, 111, 114, 105, 110])))), 0, []⟩,
⟨(some 31), none, (.p (.mv (.tmp 32))), 0, []⟩])
(.cond (.tmp 31)
(.seq
(.ops [⟨(some 33), none, (.p (.mv (.tmp 0))), 0, []⟩,
⟨(some 34), none, (.p (.mv (.tmp 1))), 0, []⟩,
⟨(some 35), none, (.p (.fieldAt 1 (.tmp 6))), 0, []⟩,
⟨(some 36), none, (.r (.load 1 false (.tmp 35))), 0, []⟩,
⟨(some 37), none, (.p (.fieldAt 2 (.tmp 6))), 0, []⟩,
⟨(some 38), none, (.r (.load 1 false (.tmp 37))), 0, []⟩,
⟨(some 39), none, (.p (.build [(.str []), (.str []), (.int .i64 0), .nilsl] [(0, (1, (.c (.str [118, 97, 114])))), (1, (1, (.tmp 36))), (2, (1, (.tmp 38)))])), 0, []⟩,
⟨(some 40), none, (.h (.call (.c (.fn 75 [] [])) [(.tmp 33), (.tmp 34), (.tmp 39), (.c (.bool false))])), 0, []⟩])
(.ops [⟨(some 41), none, (.p (.fieldAt 0 (.tmp 7))), 0, []⟩,
⟨none, none, (.h (.store 1 (.tmp 41) (.c (.bool true)))), 0, []⟩]))
(.seq
(.seq
(.ops [⟨(some 43), none, (.p (.bin .eql (.tmp 16) (.c (.str [119, 104, 105, 108, 101])))), 0, []⟩,
⟨(some 42), none, (.p (.mv (.tmp 43))), 0, []⟩])
(.cond (.tmp 42)
.skip
(.ops [⟨(some 44), none, (.p (.bin .eql (.tmp 16) (.c (.str [102, 111, 114])))), 0, []⟩,
⟨(some 42), none, (.p (.mv (.tmp 44))), 0, []⟩])))
(.cond (.tmp 42)
(.ops [⟨(some 45), none, (.p (.fieldAt 0 (.tmp 7))), 0, []⟩,
⟨none, none, (.h (.store 1 (.tmp 45) (.c (.bool true)))), 0, []⟩])
(.seq
(.ops [⟨(some 47), none, (.p (.bin .eql (.tmp 16) (.c (.str [99, 97, 108, 108])))), 0, []⟩,
⟨(some 46), none, (.p (.mv (.tmp 47))), 0, []⟩])
(.cond (.tmp 46)
(.seq
(.ops [⟨(some 48), none, (.p (.mv (.tmp 0))), 0, []⟩,
⟨(some 49), none, (.p (.mv (.tmp 1))), 0, []⟩,
⟨(some 50), none, (.r (.load 4 true (.tmp 6))), 0, []⟩,
⟨(some 51), none, (.r (.load 3 true (.tmp 7))), 0, []⟩,
⟨(some 52), none, (.h (.call (.c (.fn 76 [] [])) [(.tmp 48), (.tmp 49), (.tmp 50), (.tmp 51)])), 0, []⟩])
.ret)
(.seq
(.seq
(.ops [⟨(some 54), none, (.p (.bin .eql (.tmp 16) (.c (.str [98, 114, 101, 97, 107])))), 0, []⟩,
⟨(some 53), none, (.p (.mv (.tmp 54))), 0, []⟩])
(.cond (.tmp 53)
.skip
(.ops [⟨(some 55), none, (.p (.bin .eql (.tmp 16) (.c (.str [99, 111, 110, 116, 105, 110, 117, 101])))), 0, []⟩,
⟨(some 53), none, (.p (.mv (.tmp 55))), 0, []⟩])))
(.cond (.tmp 53)
(.seq
(.ops [⟨(some 56), none, (.p (.fieldAt 0 (.tmp 7))), 0, []⟩,
⟨(some 57), none, (.r (.load 1 false (.tmp 56))), 0, []⟩,
⟨(some 58), none, (.p (.un .not (.tmp 57))), 0, []⟩])
(.cond (.tmp 58)
(.ops [⟨(some 59), none, (.p (.mv (.tmp 0))), 0, []⟩,
⟨(some 60), none, (.p (.fieldAt 2 (.tmp 6))), 0, []⟩,
⟨(some 61), none, (.r (.load 1 false (.tmp 60))), 0, []⟩,
⟨(some 62), none, (.h (.call (.c (.fn 53 [] [])) [(.tmp 59), (.tmp 61), (.c (.int .i64 9))])), 0, []⟩])
.skip))
(.seq
(.ops [⟨(some 64), none, (.p (.bin .eql (.tmp 16) (.c (.str [114, 101, 116, 117, 114, 110])))), 0, []⟩,
⟨(some 63), none, (.p (.mv (.tmp 64))), 0, []⟩])
(.cond (.tmp 63)
(.seq
(.ops [⟨(some 65), none, (.p (.fieldAt 1 (.tmp 7))), 0, []⟩,
⟨(some 66), none, (.r (.load 1 false (.tmp 65))), 0, []⟩,
⟨(some 67), none, (.p (.un .not (.tmp 66))), 0, []⟩])
(.cond (.tmp 67)
(.ops [⟨(some 68), none, (.p (.mv (.tmp 0))), 0, []⟩,
⟨(some 69), none, (.p (.fieldAt 2 (.tmp 6))), 0, []⟩,
⟨(some 70), none, (.r (.load 1 false (.tmp 69))), 0, []⟩,
⟨(some 71), none, (.h (.call (.c (.fn 53 [] [])) [(.tmp 68), (.tmp 70), (.c (.int .i64 9))])), 0, []⟩])
.skip))
(.seq
(.ops [⟨(some 73), none, (.p (.bin .eql (.tmp 16) (.c (.str [110, 101, 120, 116])))), 0, []⟩,
⟨(some 72), none, (.p (.mv (.tmp 73))), 0, []⟩])
(.cond (.tmp 72)
(.seq
(.ops [⟨(some 74), none, (.p (.fieldAt 2 (.tmp 7))), 0, []⟩,
⟨(some 75), none, (.r (.load 1 false (.tmp 74))), 0, []⟩,
⟨(some 76), none, (.p (.un .not (.tmp 75))), 0, []⟩])
(.cond (.tmp 76)
(.ops [⟨(some 77), none, (.p (.mv (.tmp 0))), 0, []⟩,
⟨(some 78), none, (.p (.fieldAt 2 (.tmp 6))), 0, []⟩,
⟨(some 79), none, (.r (.load 1 false (.tmp 78))), 0, []⟩,
⟨(some 80), none, (.h (.call (.c (.fn 53 [] [])) [(.tmp 77), (.tmp 79), (.c (.int .i64 9))])), 0, []⟩])
.skip))
.skip))))))))))))))))))
(.seq
(.ops [⟨(some 81), none, (.p (.fieldAt 3 (.tmp 6))), 0, []⟩,
⟨(some 82), none, (.r (.load 1 false (.tmp 81))), 0, []⟩,
⟨(some 83), none, (.p (.lenSl (.tmp 82))), 0, []⟩,
⟨(some 84), none, (.p (.mv (.c (.int .i64 0)))), 0, []⟩])
(.block 1 (.loop (.seq
(.ops [⟨(some 85), none, (.p (.bin .lss (.tmp 84) (.tmp 83))), 0, []⟩])
(.seq
(.cond (.tmp 85)
.skip
(.exit 1))
(.seq
(.block 2 (.seq
(.ops [⟨(some 86), none, (.p (.idxSl 4 (.tmp 82) (.tmp 84))), 0, []⟩,
⟨(some 87), none, (.r (.load 4 true (.tmp 86))), 0, []⟩,
⟨(some 9), none, (.a (.alloc [(.str []), (.str []), (.int .i64 0), .nilsl])), 0, []⟩,
⟨none, none, (.h (.store 4 (.tmp 9) (.tmp 87))), 0, []⟩])
(.ops [⟨(some 88), none, (.p (.mv (.tmp 0))), 0, []⟩,
⟨(some 89), none, (.p (.mv (.tmp 1))), 0, []⟩,
⟨(some 90), none, (.r (.load 4 true (.tmp 9))), 0, []⟩,
⟨(some 91), none, (.r (.load 3 true (.tmp 7))), 0, []⟩,
⟨(some 92), none, (.h (.call (.c (.fn 52 [] [])) [(.tmp 88), (.tmp 89), (.tmp 90), (.tmp 91)])), 0, []⟩])))
(.ops [⟨(some 93), none, (.p (.bin .add (.tmp 84) (.c (.int .i64 1)))), 0, []⟩,
⟨(some 84), none, (.p (.mv (.tmp 93))), 0, []⟩]))))))))))⟩
theorem c52 : Mir.compF Tryz.prog Tryz.f52 = some g52 := by kernel_rfl
/-- (*scribe/resolve.resolver).fail -/
def g53 : Mir.Fn := ⟨19, [],
(.seq
(.ops [⟨(some 6), none, (.p (.mv (.tmp 0))), 0, []⟩,
⟨(some 7), none, (.p (.nilchk (.tmp 6))), 0, []⟩,
⟨(some 8), none, (.p (.fieldAt 5 (.tmp 7))), 0, []⟩,
⟨(some 9), none, (.r (.load 1 false (.tmp 8))), 0, []⟩,
⟨(some 10), none, (.p (.bin .eql (.tmp 9) (.c (.int .i64 0)))), 0, []⟩])
(.cond (.tmp 10)
(.ops [⟨(some 11), none, (.p (.mv (.tmp 0))), 0, []⟩,
⟨(some 12), none, (.p (.mv (.tmp 0))), 0, []⟩,
⟨(some 13), none, (.p (.mv (.tmp 2))), 0, []⟩,
⟨(some 14), none, (.p (.mv (.tmp 1))), 0, []⟩,
⟨(some 15), none, (.p (.nilchk (.tmp 11))), 0, []⟩,
⟨(some 16), none, (.p (.fieldAt 5 (.tmp 15))), 0, []⟩,
⟨none, none, (.h (.store 1 (.tmp 16) (.tmp 13))), 0, []⟩,
⟨(some 17), none, (.p (.nilchk (.tmp 12))), 0, []⟩,
⟨(some 18), none, (.p (.fieldAt 4 (.tmp 17))), 0, []⟩,
⟨none, none, (.h (.store 1 (.tmp 18) (.tmp 14))), 0, []⟩])
.skip))⟩
theorem c53 : Mir.compF Tryz.prog Tryz.f53 = some g53 := by kernel_rfl
/-- scribe/ast.spell -/
def g54 : Mir.Fn := ⟨44, [],
(.seq
(.ops [⟨(some 3), none, (.a (.box (.tmp 1))), 0, []⟩])
(.seq
(.ops [⟨(some 6), none, (.p (.mv (.tmp 0))), 0, []⟩,
⟨(some 7), none, (.h (.call (.c (.fn 77 [] [])) [(.tmp 6), (.c (.int .u8 40))])), 0, []⟩])
(.seq
(.ops [⟨(some 8), none, (.p (.mv (.tmp 0))), 0, []⟩,
⟨(some 9), none, (.p (.fieldAt 0 (.tmp 3))), 0, []⟩,
⟨(some 10), none, (.r (.load 1 false (.tmp 9))), 0, []⟩,
⟨(some 11), none, (.h (.call (.c (.fn 78 [] [])) [(.tmp 8), (.tmp 10)])), 0, []⟩])
(.seq
(.seq
(.ops [⟨(some 12), none, (.p (.fieldAt 1 (.tmp 3))), 0, []⟩,
⟨(some 13), none, (.r (.load 1 false (.tmp 12))), 0, []⟩,
⟨(some 14), none, (.p (.bin .neq (.tmp 13) (.c (.str [])))), 0, []⟩])
(.cond (.tmp 14)
(.seq
(.ops [⟨(some 15), none, (.p (.mv (.tmp 0))), 0, []⟩,
⟨(some 16), none, (.h (.call (.c (.fn 77 [] [])) [(.tmp 15), (.c (.int .u8 32))])), 0, []⟩])
(.seq
(.ops [⟨(some 17), none, (.p (.mv (.tmp 0))), 0, []⟩,
⟨(some 18), none, (.p (.fieldAt 1 (.tmp 3))), 0, []⟩,
⟨(some 19), none, (.r (.load 1 false (.tmp 18))), 0, []⟩,
⟨(some 20), none, (.p (.lenStr (.tmp 19))), 0, []⟩,
⟨(some 21), none, (.h (.call (.c (.fn 79 [] [])) [(.tmp 20)])), 0, []⟩,
⟨(some 22), none, (.h (.call (.c (.fn 78 [] [])) [(.tmp 17), (.tmp 21)])), 0, []⟩])
(.seq
(.ops [⟨(some 23), none, (.p (.mv (.tmp 0))), 0, []⟩,
⟨(some 24), none, (.h (.call (.c (.fn 77 [] [])) [(.tmp 23), (.c (.int .u8 58))])), 0, []⟩])
(.ops [⟨(some 25), none, (.p (.mv (.tmp 0))), 0, []⟩,
⟨(some 26), none, (.p (.fieldAt 1 (.tmp 3))), 0, []⟩,
⟨(some 27), none, (.r (.load 1 false (.tmp 26))), 0, []⟩,
⟨(some 28), none, (.h (.call (.c (.fn 78 [] [])) [(.tmp 25), (.tmp 27)])), 0, []⟩]))))
.skip))
(.seq
(.seq
(.ops [⟨(some 29), none, (.p (.fieldAt 3 (.tmp 3))), 0, []⟩,
⟨(some 30), none, (.r (.load 1 false (.tmp 29))), 0, []⟩,
⟨(some 31), none, (.p (.lenSl (.tmp 30))), 0, []⟩,
⟨(some 32), none, (.p (.mv (.c (.int .i64 0)))), 0, []⟩])
(.block 0 (.loop (.seq
(.ops [⟨(some 33), none, (.p (.bin .lss (.tmp 32) (.tmp 31))), 0, []⟩])
(.seq
(.cond (.tmp 33)
.skip
(.exit 0))
(.seq
(.block 1 (.seq
(.ops [⟨(some 34), none, (.p (.idxSl 4 (.tmp 30) (.tmp 32))), 0, []⟩,
⟨(some 35), none, (.r (.load 4 true (.tmp 34))), 0, []⟩,
⟨(some 5), none, (.a (.alloc [(.str []), (.str []), (.int .i64 0), .nilsl])), 0, []⟩,
⟨none, none, (.h (.store 4 (.tmp 5) (.tmp 35))), 0, []⟩])
(.seq
(.ops [⟨(some 36), none, (.p (.mv (.tmp 0))), 0, []⟩,
⟨(some 37), none, (.h (.call (.c (.fn 77 [] [])) [(.tmp 36), (.c (.int .u8 32))])), 0, []⟩])
(.ops [⟨(some 38), none, (.p (.mv (.tmp 0))), 0, []⟩,
⟨(some 39), none, (.r (.load 4 true (.tmp 5))), 0, []⟩,
⟨(some 40), none, (.h (.call (.c (.fn 54 [] [])) [(.tmp 38), (.tmp 39)])), 0, []⟩]))))
(.ops [⟨(some 41), none, (.p (.bin .add (.tmp 32) (.c (.int .i64 1)))), 0, []⟩,
⟨(some 32), none, (.p (.mv (.tmp 41))), 0, []⟩])))))))
(.ops [⟨(some 42), none, (.p (.mv (.tmp 0))), 0, []⟩,
⟨(some 43), none, (.h (.call (.c (.fn 77 [] [])) [(.tmp 42), (.c (.int .u8 41))])), 0, []⟩]))))))⟩
theorem c54 : Mir.compF Tryz.prog Tryz.f54 = some g54 := by kernel_rfl
/-- (*strings.Builder).String -/
def g55 : Mir.Fn := ⟨14, [(.tmp 2)],
(.seq
(.ops [⟨(some 2), none, (.p (.mv (.c (.str [])))), 0, []⟩])
(.seq
(.draw [⟨(some 3), none, (.p (.mv (.tmp 0))), 0, []⟩,
⟨(some 4), none, (.p (.nilchk (.tmp 3))), 1, []⟩,
⟨(some 5), none, (.p (.fieldAt 1 (.tmp 4))), 2, []⟩,
⟨(some 6), none, (.r (.load 1 false (.tmp 5))), 3, []⟩,
⟨(some 7), none, (.p (.dataSl (.tmp 6))), 4, []⟩,
⟨(some 8), none, (.p (.mv (.tmp 0))), 5, []⟩,
⟨(some 9), none, (.p (.nilchk (.tmp 8))), 6, []⟩,
⟨(some 10), none, (.p (.fieldAt 1 (.tmp 9))), 7, []⟩,
⟨(some 11), none, (.r (.load 1 false (.tmp 10))), 8, []⟩,
⟨(some 12), none, (.p (.lenSl (.tmp 11))), 9, []⟩,
⟨(some 13), none, (.h (.ustr (.tmp 7) (.tmp 12))), 10, []⟩,
⟨(some 2), none, (.p (.mv (.tmp 13))), 11, []⟩])
.ret))⟩
theorem c55 : Mir.compF Tryz.prog Tryz.f55 = some g55 := by kernel_rfl
/-- (*scribe/lex.lexer).while -/
def g56 : Mir.Fn := ⟨34, [],
(.block 0 (.loop (.seq
(.seq
(.draw [⟨(some 4), none, (.p (.mv (.tmp 0))), 0, []⟩,
⟨(some 5), none, (.p (.nilchk (.tmp 4))), 1, []⟩,
⟨(some 6), none, (.p (.fieldAt 1 (.tmp 5))), 2, []⟩,
⟨(some 7), none, (.r (.load 1 false (.tmp 6))), 3, []⟩,
⟨(some 8), none, (.p (.mv (.tmp 0))), 4, []⟩,
⟨(some 9), none, (.p (.nilchk (.tmp 8))), 5, []⟩,
⟨(some 10), none, (.p (.fieldAt 0 (.tmp 9))), 6, []⟩,
⟨(some 11), none, (.r (.load 1 false (.tmp 10))), 7, []⟩,
⟨(some 12), none, (.p (.lenStr (.tmp 11))), 8, []⟩,
⟨(some 13), none, (.p (.bin .lss (.tmp 7) (.tmp 12))), 9, []⟩,
⟨(some 14), none, (.p (.mv (.tmp 13))), 10, []⟩,
⟨(some 15), (some (14, true)), (.p (.mv (.tmp 1))), 11, []⟩,
⟨(some 16), (some (14, true)), (.p (.mv (.tmp 0))), 12, []⟩,
⟨(some 17), (some (14, true)), (.p (.nilchk (.tmp 16))), 13, []⟩,
⟨(some 18), (some (14, true)), (.p (.fieldAt 0 (.tmp 17))), 14, []⟩,
⟨(some 19), (some (14, true)), (.r (.load 1 false (.tmp 18))), 15, []⟩,
⟨(some 20), (some (14, true)), (.p (.mv (.tmp 0))), 16, []⟩,
⟨(some 21), (some (14, true)), (.p (.nilchk (.tmp 20))), 17, []⟩,
⟨(some 22), (some (14, true)), (.p (.fieldAt 1 (.tmp 21))), 18, []⟩,
⟨(some 23), (some (14, true)), (.r (.load 1 false (.tmp 22))), 19, []⟩,
⟨(some 24), (some (14, true)), (.p (.idxStr (.tmp 19) (.tmp 23))), 20, []⟩,
⟨(some 25), (some (14, true)), (.h (.call (.tmp 15) [(.tmp 24)])), 21, []⟩,
⟨(some 26), none, (.p (.pick (.tmp 14) (.tmp 25) (.c (.bool false)))), 22, []⟩])
(.cond (.tmp 26)
.skip
(.exit 0)))
(.block 1 (.ops [⟨(some 27), none, (.p (.mv (.tmp 0))), 0, []⟩,
⟨(some 28), none, (.p (.nilchk (.tmp 27))), 0, []⟩,
⟨(some 29), none, (.p (.fieldAt 1 (.tmp 28))), 0, []⟩,
⟨(some 30), none, (.r (.load 1 false (.tmp 29))), 0, []⟩,
⟨(some 31), none, (.p (.bin .add (.tmp 30) (.c (.int .i64 1)))), 0, []⟩,
⟨(some 32), none, (.p (.nilchk (.tmp 27))), 0, []⟩,
⟨(some 33), none, (.p (.fieldAt 1 (.tmp 32))), 0, []⟩,
⟨none, none, (.h (.store 1 (.tmp 33) (.tmp 31))), 0, []⟩])))))⟩
theorem c56 : Mir.compF Tryz.prog Tryz.f56 = some g56 := by kernel_rfl
/-- (*scribe/lex.lexer).next$1 -/
def g57 : Mir.Fn := ⟨5, [(.tmp 2)],
(.seq
(.ops [⟨(some 2), none, (.p (.mv (.c (.bool false)))), 0, []⟩])
(.seq
(.ops [⟨(some 3), none, (.p (.mv (.tmp 0))), 0, []⟩,
⟨(some 4), none, (.p (.bin .neq (.tmp 3) (.c (.int .u8 10)))), 0, []⟩,
⟨(some 2), none, (.p (.mv (.tmp 4))), 0, []⟩])
.ret))⟩
theorem c57 : Mir.compF Tryz.prog Tryz.f57 = some g57 := by kernel_rfl
/-- (*scribe/lex.lexer).peek -/
def g58 : Mir.Fn := ⟨28, [(.tmp 4)],
(.seq
(.ops [⟨(some 4), none, (.p (.mv (.c (.int .u8 0)))), 0, []⟩])
(.seq
(.seq
(.draw [⟨(some 5), none, (.p (.mv (.tmp 0))), 0, []⟩,
⟨(some 6), none, (.p (.nilchk (.tmp 5))), 1, []⟩,
⟨(some 7), none, (.p (.fieldAt 1 (.tmp 6))), 2, []⟩,
⟨(some 8), none, (.r (.load 1 false (.tmp 7))), 3, []⟩,
⟨(some 9), none, (.p (.mv (.tmp 1))), 4, []⟩,
⟨(some 10), none, (.p (.bin .add (.tmp 8) (.tmp 9))), 5, []⟩,
⟨(some 11), none, (.p (.mv (.tmp 0))), 6, []⟩,
⟨(some 12), none, (.p (.nilchk (.tmp 11))), 7, []⟩,
⟨(some 13), none, (.p (.fieldAt 0 (.tmp 12))), 8, []⟩,
⟨(some 14), none, (.r (.load 1 false (.tmp 13))), 9, []⟩,
⟨(some 15), none, (.p (.lenStr (.tmp 14))), 10, []⟩,
⟨(some 16), none, (.p (.bin .geq (.tmp 10) (.tmp 15))), 11, []⟩])
(.cond (.tmp 16)
(.seq
(.ops [⟨(some 4), none, (.p (.mv (.c (.int .u8 0)))), 0, []⟩])
.ret)
.skip))
(.seq
(.draw [⟨(some 17), none, (.p (.mv (.tmp 0))), 0, []⟩,
⟨(some 18), none, (.p (.nilchk (.tmp 17))), 1, []⟩,
⟨(some 19), none, (.p (.fieldAt 0 (.tmp 18))), 2, []⟩,
⟨(some 20), none, (.r (.load 1 false (.tmp 19))), 3, []⟩,
⟨(some 21), none, (.p (.mv (.tmp 0))), 4, []⟩,
⟨(some 22), none, (.p (.nilchk (.tmp 21))), 5, []⟩,
⟨(some 23), none, (.p (.fieldAt 1 (.tmp 22))), 6, []⟩,
⟨(some 24), none, (.r (.load 1 false (.tmp 23))), 7, []⟩,
⟨(some 25), none, (.p (.mv (.tmp 1))), 8, []⟩,
⟨(some 26), none, (.p (.bin .add (.tmp 24) (.tmp 25))), 9, []⟩,
⟨(some 27), none, (.p (.idxStr (.tmp 20) (.tmp 26))), 10, []⟩,
⟨(some 4), none, (.p (.mv (.tmp 27))), 11, []⟩])
.ret)))⟩
theorem c58 : Mir.compF Tryz.prog Tryz.f58 = some g58 := by kernel_rfl
/-- scribe/lex.digit -/
def g59 : Mir.Fn := ⟨9, [(.tmp 2)],
(.seq
(.ops [⟨(some 2), none, (.p (.mv (.c (.bool false)))), 0, []⟩])
(.seq
(.ops [⟨(some 3), none, (.p (.mv (.tmp 0))), 0, []⟩,
⟨(some 4), none, (.p (.bin .geq (.tmp 3) (.c (.int .u8 48)))), 0, []⟩,
⟨(some 5), none, (.p (.mv (.tmp 4))), 0, []⟩,
⟨(some 6), (some (5, true)), (.p (.mv (.tmp 0))), 0, []⟩,
⟨(some 7), (some (5, true)), (.p (.bin .leq (.tmp 6) (.c (.int .u8 57)))), 0, []⟩,
⟨(some 8), none, (.p (.pick (.tmp 5) (.tmp 7) (.c (.bool false)))), 0, []⟩,
⟨(some 2), none, (.p (.mv (.tmp 8))), 0, []⟩])
.ret))⟩
theorem c59 : Mir.compF Tryz.prog Tryz.f59 = some g59 := by kernel_rfl
end Go.Proofs.YtkfbldogmgofoaaGreatDoor
