/- The mirror's code of the seat's functions; printed by KPrint. -/
import Derived.Test.YtkfbldogmgofoaaGreatDoorG2
namespace Go.Proofs.YtkfbldogmgofoaaGreatDoor
/-- (*scribe/parse.parser).primary -/
def g128 : Mir.Fn := ⟨102, [(.cell 2 4 true)],
(.seq
(.ops [⟨(some 2), none, (.a (.alloc [(.str []), (.str []), (.int .i64 0), .nilsl])), 0, []⟩])
(.seq
(.ops [⟨(some 7), none, (.p (.mv (.tmp 0))), 0, []⟩,
⟨(some 8), none, (.h (.call (.c (.fn 27 [] [])) [(.tmp 7)])), 0, []⟩,
⟨(some 3), none, (.a (.alloc [(.int .i64 0), (.str []), (.int .i64 0)])), 0, []⟩,
⟨none, none, (.h (.store 3 (.tmp 3) (.tmp 8))), 0, []⟩])
(.seq
(.block 0 (.seq
(.ops [⟨(some 10), none, (.p (.fieldAt 0 (.tmp 3))), 0, []⟩,
⟨(some 11), none, (.r (.load 1 false (.tmp 10))), 0, []⟩,
⟨(some 12), none, (.p (.bin .eql (.tmp 11) (.c (.int .i64 2)))), 0, []⟩,
⟨(some 9), none, (.p (.mv (.tmp 12))), 0, []⟩])
(.cond (.tmp 9)
(.seq
(.ops [⟨(some 13), none, (.p (.mv (.tmp 0))), 0, []⟩,
⟨(some 14), none, (.h (.call (.c (.fn 28 [] [])) [(.tmp 13)])), 0, []⟩])
(.seq
(.ops [⟨(some 15), none, (.r (.load 3 true (.tmp 3))), 0, []⟩,
⟨(some 16), none, (.h (.call (.c (.fn 42 [] [])) [(.c (.str [110, 117, 109])), (.tmp 15), (.c .nilsl)])), 0, []⟩,
⟨none, none, (.h (.store 4 (.tmp 2) (.tmp 16))), 0, []⟩])
.ret))
(.seq
(.ops [⟨(some 18), none, (.p (.fieldAt 0 (.tmp 3))), 0, []⟩,
⟨(some 19), none, (.r (.load 1 false (.tmp 18))), 0, []⟩,
⟨(some 20), none, (.p (.bin .eql (.tmp 19) (.c (.int .i64 3)))), 0, []⟩,
⟨(some 17), none, (.p (.mv (.tmp 20))), 0, []⟩])
(.cond (.tmp 17)
(.seq
(.ops [⟨(some 21), none, (.p (.mv (.tmp 0))), 0, []⟩,
⟨(some 22), none, (.h (.call (.c (.fn 28 [] [])) [(.tmp 21)])), 0, []⟩])
(.seq
(.ops [⟨(some 23), none, (.r (.load 3 true (.tmp 3))), 0, []⟩,
⟨(some 24), none, (.h (.call (.c (.fn 42 [] [])) [(.c (.str [115, 116, 114])), (.tmp 23), (.c .nilsl)])), 0, []⟩,
⟨none, none, (.h (.store 4 (.tmp 2) (.tmp 24))), 0, []⟩])
.ret))
(.seq
(.ops [⟨(some 26), none, (.p (.fieldAt 0 (.tmp 3))), 0, []⟩,
⟨(some 27), none, (.r (.load 1 false (.tmp 26))), 0, []⟩,
⟨(some 28), none, (.p (.bin .eql (.tmp 27) (.c (.int .i64 4)))), 0, []⟩,
⟨(some 25), none, (.p (.mv (.tmp 28))), 0, []⟩])
(.cond (.tmp 25)
(.seq
(.seq
(.ops [⟨(some 30), none, (.p (.fieldAt 1 (.tmp 3))), 0, []⟩,
⟨(some 31), none, (.r (.load 1 false (.tmp 30))), 0, []⟩,
⟨(some 32), none, (.h (.call (.c (.fn 129 [] [])) [(.tmp 31)])), 0, []⟩,
⟨(some 29), none, (.p (.mv (.tmp 32))), 0, []⟩,
⟨(some 33), none, (.p (.ext (.tmp 29) 0)), 0, []⟩,
⟨(some 34), none, (.p (.ext (.tmp 29) 1)), 0, []⟩,
⟨(some 35), none, (.p (.ext (.tmp 29) 2)), 0, []⟩,
⟨(some 4), none, (.a (.alloc [(.int .i64 0), (.int .u64 0), (.int .u64 0), (.int .u64 0), (.int .u64 0), .nilsl])), 0, []⟩,
⟨none, none, (.h (.store 6 (.tmp 4) (.tmp 33))), 0, []⟩,
⟨(some 5), none, (.p (.mv (.tmp 34))), 0, []⟩,
⟨(some 6), none, (.p (.mv (.tmp 35))), 0, []⟩])
(.seq
(.ops [⟨(some 36), none, (.p (.mv (.tmp 6))), 0, []⟩,
⟨(some 37), none, (.p (.bin .neq (.tmp 36) (.c (.int .i64 0)))), 0, []⟩])
(.cond (.tmp 37)
(.ops [⟨(some 38), none, (.p (.mv (.tmp 0))), 0, []⟩,
⟨(some 39), none, (.h (.call (.c (.fn 47 [] [])) [(.tmp 38)])), 0, []⟩])
.skip)))
(.seq
(.ops [⟨(some 40), none, (.p (.mv (.tmp 0))), 0, []⟩,
⟨(some 41), none, (.h (.call (.c (.fn 28 [] [])) [(.tmp 40)])), 0, []⟩])
(.seq
(.ops [⟨(some 42), none, (.r (.load 3 true (.tmp 3))), 0, []⟩,
⟨(some 43), none, (.h (.call (.c (.fn 42 [] [])) [(.c (.str [114, 101])), (.tmp 42), (.c .nilsl)])), 0, []⟩,
⟨none, none, (.h (.store 4 (.tmp 2) (.tmp 43))), 0, []⟩])
.ret)))
(.seq
(.ops [⟨(some 45), none, (.p (.fieldAt 0 (.tmp 3))), 0, []⟩,
⟨(some 46), none, (.r (.load 1 false (.tmp 45))), 0, []⟩,
⟨(some 47), none, (.p (.bin .eql (.tmp 46) (.c (.int .i64 5)))), 0, []⟩,
⟨(some 44), none, (.p (.mv (.tmp 47))), 0, []⟩])
(.cond (.tmp 44)
(.seq
(.ops [⟨(some 48), none, (.p (.mv (.tmp 0))), 0, []⟩,
⟨(some 49), none, (.h (.call (.c (.fn 28 [] [])) [(.tmp 48)])), 0, []⟩])
(.seq
(.seq
(.ops [⟨(some 50), none, (.p (.mv (.tmp 0))), 0, []⟩,
⟨(some 51), none, (.h (.call (.c (.fn 40 [] [])) [(.tmp 50), (.c (.str [91]))])), 0, []⟩])
(.cond (.tmp 51)
(.seq
(.draw [⟨(some 52), none, (.r (.load 3 true (.tmp 3))), 0, []⟩,
⟨(some 53), none, (.p (.mv (.tmp 0))), 1, []⟩,
⟨(some 54), none, (.h (.call (.c (.fn 84 [] [])) [(.tmp 53), (.c (.str [93]))])), 2, [0]⟩,
⟨(some 55), none, (.a (.mkSl [(.str []), (.str []), (.int .i64 0), .nilsl] 4 1 [(0, (4, (.tmp 54)))])), 3, []⟩,
⟨(some 56), none, (.h (.call (.c (.fn 42 [] [])) [(.c (.str [105, 110, 100, 101, 120])), (.tmp 52), (.tmp 55)])), 4, []⟩,
⟨none, none, (.h (.store 4 (.tmp 2) (.tmp 56))), 5, []⟩])
.ret)
.skip))
(.seq
(.ops [⟨(some 57), none, (.r (.load 3 true (.tmp 3))), 0, []⟩,
⟨(some 58), none, (.h (.call (.c (.fn 42 [] [])) [(.c (.str [118, 97, 114])), (.tmp 57), (.c .nilsl)])), 0, []⟩,
⟨none, none, (.h (.store 4 (.tmp 2) (.tmp 58))), 0, []⟩])
.ret)))
(.seq
(.ops [⟨(some 60), none, (.p (.fieldAt 0 (.tmp 3))), 0, []⟩,
⟨(some 61), none, (.r (.load 1 false (.tmp 60))), 0, []⟩,
⟨(some 62), none, (.p (.bin .eql (.tmp 61) (.c (.int .i64 6)))), 0, []⟩,
⟨(some 59), none, (.p (.mv (.tmp 62))), 0, []⟩])
(.cond (.tmp 59)
(.seq
(.ops [⟨(some 63), none, (.p (.mv (.tmp 0))), 0, []⟩,
⟨(some 64), none, (.h (.call (.c (.fn 28 [] [])) [(.tmp 63)])), 0, []⟩])
(.seq
(.ops [⟨(some 65), none, (.p (.mv (.tmp 0))), 0, []⟩,
⟨(some 66), none, (.h (.call (.c (.fn 44 [] [])) [(.tmp 65), (.c (.str [40]))])), 0, []⟩])
(.seq
(.draw [⟨(some 67), none, (.r (.load 3 true (.tmp 3))), 0, []⟩,
⟨(some 68), none, (.p (.mv (.tmp 0))), 1, []⟩,
⟨(some 69), none, (.h (.call (.c (.fn 105 [] [])) [(.tmp 68), (.c (.str [41]))])), 2, [0]⟩,
⟨(some 70), none, (.h (.call (.c (.fn 42 [] [])) [(.c (.str [99, 97, 108, 108])), (.tmp 67), (.tmp 69)])), 3, []⟩,
⟨none, none, (.h (.store 4 (.tmp 2) (.tmp 70))), 4, []⟩])
.ret)))
(.seq
(.ops [⟨(some 72), none, (.p (.fieldAt 0 (.tmp 3))), 0, []⟩,
⟨(some 73), none, (.r (.load 1 false (.tmp 72))), 0, []⟩,
⟨(some 74), none, (.p (.bin .eql (.tmp 73) (.c (.int .i64 9)))), 0, []⟩,
⟨(some 71), none, (.p (.mv (.tmp 74))), 0, []⟩])
(.cond (.tmp 71)
(.seq
(.ops [⟨(some 75), none, (.p (.mv (.tmp 0))), 0, []⟩,
⟨(some 76), none, (.h (.call (.c (.fn 130 [] [])) [(.tmp 75)])), 0, []⟩,
⟨none, none, (.h (.store 4 (.tmp 2) (.tmp 76))), 0, []⟩])
.ret)
(.seq
(.ops [⟨(some 78), none, (.p (.mv (.tmp 0))), 0, []⟩,
⟨(some 79), none, (.h (.call (.c (.fn 40 [] [])) [(.tmp 78), (.c (.str [40]))])), 0, []⟩,
⟨(some 77), none, (.p (.mv (.tmp 79))), 0, []⟩])
(.cond (.tmp 77)
(.seq
(.ops [⟨(some 80), none, (.p (.mv (.tmp 0))), 0, []⟩,
⟨(some 81), none, (.h (.call (.c (.fn 84 [] [])) [(.tmp 80), (.c (.str [41]))])), 0, []⟩,
⟨none, none, (.h (.store 4 (.tmp 2) (.tmp 81))), 0, []⟩])
.ret)
(.seq
(.ops [⟨(some 83), none, (.p (.mv (.tmp 0))), 0, []⟩,
⟨(some 84), none, (.h (.call (.c (.fn 40 [] [])) [(.tmp 83), (.c (.str [36]))])), 0, []⟩,
⟨(some 82), none, (.p (.mv (.tmp 84))), 0, []⟩])
(.cond (.tmp 82)
(.seq
(.ops [⟨(some 85), none, (.p (.mv (.tmp 0))), 0, []⟩,
⟨(some 86), none, (.h (.call (.c (.fn 71 [] [])) [(.tmp 85)])), 0, []⟩])
(.seq
(.ops [⟨(some 87), none, (.p (.mv (.tmp 0))), 0, []⟩,
⟨none, none, (.h (.dfr (.c (.fn 72 [] [])) [(.tmp 87)])), 0, []⟩])
(.seq
(.seq
(.ops [⟨(some 88), none, (.p (.mv (.tmp 0))), 0, []⟩,
⟨(some 89), none, (.a (.mkSl [(.str [])] 1 2 [(0, (1, (.c (.str [43, 43])))), (1, (1, (.c (.str [45, 45]))))])), 0, []⟩,
⟨(some 90), none, (.h (.call (.c (.fn 26 [] [])) [(.tmp 88), (.tmp 89)])), 0, []⟩])
(.cond (.tmp 90)
(.seq
(.ops [⟨(some 91), none, (.p (.mv (.tmp 0))), 0, []⟩,
⟨(some 92), none, (.h (.call (.c (.fn 127 [] [])) [(.tmp 91)])), 0, []⟩,
⟨(some 93), none, (.a (.mkSl [(.str []), (.str []), (.int .i64 0), .nilsl] 4 1 [(0, (4, (.tmp 92)))])), 0, []⟩,
⟨(some 94), none, (.h (.call (.c (.fn 25 [] [])) [(.c (.str [102, 105, 101, 108, 100])), (.tmp 93)])), 0, []⟩,
⟨none, none, (.h (.store 4 (.tmp 2) (.tmp 94))), 0, []⟩])
.ret)
.skip))
(.seq
(.ops [⟨(some 95), none, (.p (.mv (.tmp 0))), 0, []⟩,
⟨(some 96), none, (.h (.call (.c (.fn 128 [] [])) [(.tmp 95)])), 0, []⟩,
⟨(some 97), none, (.a (.mkSl [(.str []), (.str []), (.int .i64 0), .nilsl] 4 1 [(0, (4, (.tmp 96)))])), 0, []⟩,
⟨(some 98), none, (.h (.call (.c (.fn 25 [] [])) [(.c (.str [102, 105, 101, 108, 100])), (.tmp 97)])), 0, []⟩,
⟨none, none, (.h (.store 4 (.tmp 2) (.tmp 98))), 0, []⟩])
.ret))))
.skip)))))))))))))))))
(.seq
(.ops [⟨(some 99), none, (.p (.mv (.tmp 0))), 0, []⟩,
⟨(some 100), none, (.h (.call (.c (.fn 47 [] [])) [(.tmp 99)])), 0, []⟩])
(.seq
(.ops [⟨(some 101), none, (.p (.build [(.str []), (.str []), (.int .i64 0), .nilsl] [])), 0, []⟩,
⟨none, none, (.h (.store 4 (.tmp 2) (.tmp 101))), 0, []⟩])
.ret)))))⟩
theorem c128 : Mir.compF Tryz.prog Tryz.f128 = some g128 := by kernel_rfl
/-- scribe/regex.Parse -/
def g129 : Mir.Fn := ⟨31, [(.cell 2 6 true), (.tmp 3), (.tmp 4)],
(.seq
(.ops [⟨(some 2), none, (.a (.alloc [(.int .i64 0), (.int .u64 0), (.int .u64 0), (.int .u64 0), (.int .u64 0), .nilsl])), 0, []⟩,
⟨(some 3), none, (.p (.mv (.c (.int .i64 0)))), 0, []⟩,
⟨(some 4), none, (.p (.mv (.c (.int .i64 0)))), 0, []⟩])
(.seq
(.seq
(.ops [⟨(some 7), none, (.p (.mv (.tmp 0))), 0, []⟩,
⟨(some 8), none, (.p (.lenStr (.tmp 7))), 0, []⟩,
⟨(some 9), none, (.p (.bin .gtr (.tmp 8) (.c (.int .i64 300)))), 0, []⟩])
(.cond (.tmp 9)
(.seq
(.ops [⟨(some 10), none, (.p (.build [(.int .i64 0), (.int .u64 0), (.int .u64 0), (.int .u64 0), (.int .u64 0), .nilsl] [])), 0, []⟩,
⟨none, none, (.h (.store 6 (.tmp 2) (.tmp 10))), 0, []⟩,
⟨(some 3), none, (.p (.mv (.c (.int .i64 0)))), 0, []⟩,
⟨(some 4), none, (.p (.mv (.c (.int .i64 12)))), 0, []⟩])
.ret)
.skip))
(.seq
(.ops [⟨(some 11), none, (.p (.mv (.tmp 0))), 0, []⟩,
⟨(some 12), none, (.p (.build [(.str []), (.int .i64 0), (.int .i64 0), (.int .i64 0), (.int .i64 0)] [(0, (1, (.tmp 11)))])), 0, []⟩,
⟨(some 13), none, (.a (.box (.tmp 12))), 0, []⟩,
⟨(some 5), none, (.p (.mv (.tmp 13))), 0, []⟩])
(.seq
(.ops [⟨(some 14), none, (.p (.mv (.tmp 5))), 0, []⟩,
⟨(some 15), none, (.h (.call (.c (.fn 131 [] [])) [(.tmp 14)])), 0, []⟩,
⟨(some 6), none, (.a (.alloc [(.int .i64 0), (.int .u64 0), (.int .u64 0), (.int .u64 0), (.int .u64 0), .nilsl])), 0, []⟩,
⟨none, none, (.h (.store 6 (.tmp 6) (.tmp 15))), 0, []⟩])
(.seq
(.seq
(.ops [⟨(some 16), none, (.p (.mv (.tmp 5))), 0, []⟩,
⟨(some 17), none, (.p (.nilchk (.tmp 16))), 0, []⟩,
⟨(some 18), none, (.p (.fieldAt 3 (.tmp 17))), 0, []⟩,
⟨(some 19), none, (.r (.load 1 false (.tmp 18))), 0, []⟩,
⟨(some 20), none, (.p (.bin .neq (.tmp 19) (.c (.int .i64 0)))), 0, []⟩])
(.cond (.tmp 20)
(.seq
(.draw [⟨(some 21), none, (.p (.build [(.int .i64 0), (.int .u64 0), (.int .u64 0), (.int .u64 0), (.int .u64 0), .nilsl] [])), 0, []⟩,
⟨(some 22), none, (.p (.mv (.tmp 5))), 1, []⟩,
⟨(some 23), none, (.p (.nilchk (.tmp 22))), 2, []⟩,
⟨(some 24), none, (.p (.fieldAt 4 (.tmp 23))), 3, []⟩,
⟨(some 25), none, (.r (.load 1 false (.tmp 24))), 4, []⟩,
⟨(some 26), none, (.p (.mv (.tmp 5))), 5, []⟩,
⟨(some 27), none, (.p (.nilchk (.tmp 26))), 6, []⟩,
⟨(some 28), none, (.p (.fieldAt 3 (.tmp 27))), 7, []⟩,
⟨(some 29), none, (.r (.load 1 false (.tmp 28))), 8, []⟩,
⟨none, none, (.h (.store 6 (.tmp 2) (.tmp 21))), 9, [4, 8]⟩,
⟨(some 3), none, (.p (.mv (.tmp 25))), 10, []⟩,
⟨(some 4), none, (.p (.mv (.tmp 29))), 11, []⟩])
.ret)
.skip))
(.seq
(.ops [⟨(some 30), none, (.r (.load 6 true (.tmp 6))), 0, []⟩,
⟨none, none, (.h (.store 6 (.tmp 2) (.tmp 30))), 0, []⟩,
⟨(some 3), none, (.p (.mv (.c (.int .i64 0)))), 0, []⟩,
⟨(some 4), none, (.p (.mv (.c (.int .i64 0)))), 0, []⟩])
.ret))))))⟩
theorem c129 : Mir.compF Tryz.prog Tryz.f129 = some g129 := by kernel_rfl
/-- (*scribe/parse.parser).builtin -/
def g130 : Mir.Fn := ⟨136, [(.cell 2 4 true)],
(.seq
(.ops [⟨(some 1), none, (.a (.box (.tmp 0))), 0, []⟩,
⟨(some 2), none, (.a (.alloc [(.str []), (.str []), (.int .i64 0), .nilsl])), 0, []⟩])
(.seq
(.ops [⟨(some 7), none, (.r (.load 1 false (.tmp 1))), 0, []⟩,
⟨(some 8), none, (.h (.call (.c (.fn 27 [] [])) [(.tmp 7)])), 0, []⟩,
⟨(some 3), none, (.a (.alloc [(.int .i64 0), (.str []), (.int .i64 0)])), 0, []⟩,
⟨none, none, (.h (.store 3 (.tmp 3) (.tmp 8))), 0, []⟩])
(.seq
(.ops [⟨(some 9), none, (.r (.load 1 false (.tmp 1))), 0, []⟩,
⟨(some 10), none, (.h (.call (.c (.fn 28 [] [])) [(.tmp 9)])), 0, []⟩])
(.seq
(.seq
(.ops [⟨(some 11), none, (.p (.fieldAt 1 (.tmp 3))), 0, []⟩,
⟨(some 12), none, (.r (.load 1 false (.tmp 11))), 0, []⟩,
⟨(some 13), none, (.p (.bin .eql (.tmp 12) (.c (.str [108, 101, 110, 103, 116, 104])))), 0, []⟩,
⟨(some 14), none, (.p (.mv (.tmp 13))), 0, []⟩,
⟨(some 15), (some (14, true)), (.r (.load 1 false (.tmp 1))), 0, []⟩,
⟨(some 16), (some (14, true)), (.a (.mkSl [(.str [])] 1 1 [(0, (1, (.c (.str [40]))))])), 0, []⟩,
⟨(some 17), (some (14, true)), (.h (.call (.c (.fn 26 [] [])) [(.tmp 15), (.tmp 16)])), 0, []⟩,
⟨(some 18), (some (14, true)), (.p (.un .not (.tmp 17))), 0, []⟩,
⟨(some 19), none, (.p (.pick (.tmp 14) (.tmp 18) (.c (.bool false)))), 0, []⟩])
(.cond (.tmp 19)
(.seq
(.ops [⟨(some 20), none, (.r (.load 3 true (.tmp 3))), 0, []⟩,
⟨(some 21), none, (.h (.call (.c (.fn 42 [] [])) [(.c (.str [98, 117, 105, 108, 116, 105, 110])), (.tmp 20), (.c .nilsl)])), 0, []⟩,
⟨none, none, (.h (.store 4 (.tmp 2) (.tmp 21))), 0, []⟩])
.ret)
.skip))
(.seq
(.ops [⟨(some 22), none, (.r (.load 1 false (.tmp 1))), 0, []⟩,
⟨(some 23), none, (.h (.call (.c (.fn 44 [] [])) [(.tmp 22), (.c (.str [40]))])), 0, []⟩])
(.seq
(.ops [⟨(some 24), none, (.r (.load 1 false (.tmp 1))), 0, []⟩,
⟨(some 25), none, (.h (.call (.c (.fn 105 [] [])) [(.tmp 24), (.c (.str [41]))])), 0, []⟩,
⟨(some 4), none, (.p (.mv (.tmp 25))), 0, []⟩])
(.seq
(.ops [⟨(some 26), none, (.p (.mkFn 132 [] [(.tmp 1), (.tmp 3)])), 0, []⟩,
⟨(some 5), none, (.p (.mv (.tmp 26))), 0, []⟩])
(.seq
(.ops [⟨(some 27), none, (.p (.mv (.tmp 4))), 0, []⟩,
⟨(some 28), none, (.p (.lenSl (.tmp 27))), 0, []⟩,
⟨(some 6), none, (.p (.mv (.tmp 28))), 0, []⟩])
(.seq
(.seq
(.ops [⟨(some 29), none, (.p (.fieldAt 1 (.tmp 3))), 0, []⟩,
⟨(some 30), none, (.r (.load 1 false (.tmp 29))), 0, []⟩])
(.block 0 (.seq
(.block 9 (.seq
(.block 8 (.seq
(.block 7 (.seq
(.block 6 (.seq
(.block 5 (.seq
(.block 4 (.seq
(.block 3 (.seq
(.block 2 (.seq
(.block 1 (.seq
(.seq
(.seq
(.ops [⟨(some 32), none, (.p (.bin .eql (.tmp 30) (.c (.str [108, 101, 110, 103, 116, 104])))), 0, []⟩,
⟨(some 31), none, (.p (.mv (.tmp 32))), 0, []⟩])
(.cond (.tmp 31)
(.exit 1)
.skip))
(.seq
(.seq
(.ops [⟨(some 34), none, (.p (.bin .eql (.tmp 30) (.c (.str [115, 117, 98, 115, 116, 114])))), 0, []⟩,
⟨(some 33), none, (.p (.mv (.tmp 34))), 0, []⟩])
(.cond (.tmp 33)
(.exit 2)
.skip))
(.seq
(.seq
(.ops [⟨(some 36), none, (.p (.bin .eql (.tmp 30) (.c (.str [115, 112, 108, 105, 116])))), 0, []⟩,
⟨(some 35), none, (.p (.mv (.tmp 36))), 0, []⟩])
(.cond (.tmp 35)
(.exit 3)
.skip))
(.seq
(.seq
(.seq
(.ops [⟨(some 38), none, (.p (.bin .eql (.tmp 30) (.c (.str [115, 117, 98])))), 0, []⟩,
⟨(some 37), none, (.p (.mv (.tmp 38))), 0, []⟩])
(.cond (.tmp 37)
.skip
(.ops [⟨(some 39), none, (.p (.bin .eql (.tmp 30) (.c (.str [103, 115, 117, 98])))), 0, []⟩,
⟨(some 37), none, (.p (.mv (.tmp 39))), 0, []⟩])))
(.cond (.tmp 37)
(.exit 4)
.skip))
(.seq
(.seq
(.seq
(.ops [⟨(some 41), none, (.p (.bin .eql (.tmp 30) (.c (.str [105, 110, 100, 101, 120])))), 0, []⟩,
⟨(some 40), none, (.p (.mv (.tmp 41))), 0, []⟩])
(.cond (.tmp 40)
.skip
(.ops [⟨(some 42), none, (.p (.bin .eql (.tmp 30) (.c (.str [109, 97, 116, 99, 104])))), 0, []⟩,
⟨(some 40), none, (.p (.mv (.tmp 42))), 0, []⟩])))
(.cond (.tmp 40)
(.exit 5)
.skip))
(.seq
(.seq
(.ops [⟨(some 44), none, (.p (.bin .eql (.tmp 30) (.c (.str [115, 112, 114, 105, 110, 116, 102])))), 0, []⟩,
⟨(some 43), none, (.p (.mv (.tmp 44))), 0, []⟩])
(.cond (.tmp 43)
(.exit 6)
.skip))
(.seq
(.seq
(.ops [⟨(some 46), none, (.p (.bin .eql (.tmp 30) (.c (.str [114, 97, 110, 100])))), 0, []⟩,
⟨(some 45), none, (.p (.mv (.tmp 46))), 0, []⟩])
(.cond (.tmp 45)
(.exit 7)
.skip))
(.seq
(.ops [⟨(some 48), none, (.p (.bin .eql (.tmp 30) (.c (.str [115, 114, 97, 110, 100])))), 0, []⟩,
⟨(some 47), none, (.p (.mv (.tmp 48))), 0, []⟩])
(.cond (.tmp 47)
(.exit 8)
.skip)))))))))
(.exit 9)))
(.seq
(.ops [⟨(some 49), none, (.p (.mv (.tmp 5))), 0, []⟩,
⟨(some 50), none, (.p (.mv (.tmp 6))), 0, []⟩,
⟨(some 51), none, (.p (.bin .gtr (.tmp 50) (.c (.int .i64 1)))), 0, []⟩,
⟨(some 52), none, (.h (.call (.tmp 49) [(.tmp 51), (.c (.int .i64 9))])), 0, []⟩])
(.exit 0))))
(.seq
(.ops [⟨(some 53), none, (.p (.mv (.tmp 5))), 0, []⟩,
⟨(some 54), none, (.p (.mv (.tmp 6))), 0, []⟩,
⟨(some 55), none, (.p (.bin .lss (.tmp 54) (.c (.int .i64 2)))), 0, []⟩,
⟨(some 56), none, (.p (.mv (.tmp 55))), 0, []⟩,
⟨(some 57), (some (56, false)), (.p (.mv (.tmp 6))), 0, []⟩,
⟨(some 58), (some (56, false)), (.p (.bin .gtr (.tmp 57) (.c (.int .i64 3)))), 0, []⟩,
⟨(some 59), none, (.p (.pick (.tmp 56) (.c (.bool true)) (.tmp 58))), 0, []⟩,
⟨(some 60), none, (.h (.call (.tmp 53) [(.tmp 59), (.c (.int .i64 9))])), 0, []⟩])
(.exit 0))))
(.seq
(.seq
(.ops [⟨(some 61), none, (.p (.mv (.tmp 5))), 0, []⟩,
⟨(some 62), none, (.p (.mv (.tmp 6))), 0, []⟩,
⟨(some 63), none, (.p (.bin .lss (.tmp 62) (.c (.int .i64 2)))), 0, []⟩,
⟨(some 64), none, (.p (.mv (.tmp 63))), 0, []⟩,
⟨(some 65), (some (64, false)), (.p (.mv (.tmp 6))), 0, []⟩,
⟨(some 66), (some (64, false)), (.p (.bin .gtr (.tmp 65) (.c (.int .i64 3)))), 0, []⟩,
⟨(some 67), none, (.p (.pick (.tmp 64) (.c (.bool true)) (.tmp 66))), 0, []⟩,
⟨(some 68), none, (.p (.mv (.tmp 67))), 0, []⟩,
⟨(some 69), (some (68, false)), (.p (.mv (.tmp 4))), 0, []⟩,
⟨(some 70), (some (68, false)), (.p (.idxSl 4 (.tmp 69) (.c (.int .i64 1)))), 0, []⟩,
⟨(some 71), (some (68, false)), (.p (.fieldAt 0 (.tmp 70))), 0, []⟩,
⟨(some 72), (some (68, false)), (.r (.load 1 false (.tmp 71))), 0, []⟩,
⟨(some 73), (some (68, false)), (.p (.bin .neq (.tmp 72) (.c (.str [118, 97, 114])))), 0, []⟩,
⟨(some 74), none, (.p (.pick (.tmp 68) (.c (.bool true)) (.tmp 73))), 0, []⟩,
⟨(some 75), none, (.h (.call (.tmp 61) [(.tmp 74), (.c (.int .i64 9))])), 0, []⟩])
(.seq
(.ops [⟨(some 76), none, (.r (.load 1 false (.tmp 1))), 0, []⟩,
⟨(some 77), none, (.p (.nilchk (.tmp 76))), 0, []⟩,
⟨(some 78), none, (.p (.fieldAt 4 (.tmp 77))), 0, []⟩,
⟨(some 79), none, (.r (.load 1 false (.tmp 78))), 0, []⟩,
⟨(some 80), none, (.p (.bin .eql (.tmp 79) (.c (.int .i64 0)))), 0, []⟩])
(.cond (.tmp 80)
(.ops [⟨(some 81), none, (.p (.mv (.tmp 4))), 0, []⟩,
⟨(some 82), none, (.p (.idxSl 4 (.tmp 81) (.c (.int .i64 1)))), 0, []⟩,
⟨(some 83), none, (.p (.fieldAt 0 (.tmp 82))), 0, []⟩,
⟨none, none, (.h (.store 1 (.tmp 83) (.c (.str [110, 97, 109, 101])))), 0, []⟩])
.skip)))
(.exit 0))))
(.seq
(.seq
(.ops [⟨(some 84), none, (.p (.mv (.tmp 5))), 0, []⟩,
⟨(some 85), none, (.p (.mv (.tmp 6))), 0, []⟩,
⟨(some 86), none, (.p (.bin .lss (.tmp 85) (.c (.int .i64 2)))), 0, []⟩,
⟨(some 87), none, (.p (.mv (.tmp 86))), 0, []⟩,
⟨(some 88), (some (87, false)), (.p (.mv (.tmp 6))), 0, []⟩,
⟨(some 89), (some (87, false)), (.p (.bin .gtr (.tmp 88) (.c (.int .i64 3)))), 0, []⟩,
⟨(some 90), none, (.p (.pick (.tmp 87) (.c (.bool true)) (.tmp 89))), 0, []⟩,
⟨(some 91), none, (.p (.mv (.tmp 90))), 0, []⟩,
⟨(some 92), (some (91, false)), (.p (.mv (.tmp 6))), 0, []⟩,
⟨(some 93), (some (91, false)), (.p (.bin .eql (.tmp 92) (.c (.int .i64 3)))), 0, []⟩,
⟨(some 94), (some (91, false)), (.p (.mv (.tmp 93))), 0, []⟩,
⟨(some 95), (some (94, true)), (.p (.mv (.tmp 4))), 0, []⟩,
⟨(some 96), (some (94, true)), (.p (.idxSl 4 (.tmp 95) (.c (.int .i64 2)))), 0, []⟩,
⟨(some 97), (some (94, true)), (.r (.load 4 true (.tmp 96))), 0, []⟩,
⟨(some 98), (some (94, true)), (.h (.call (.c (.fn 74 [] [])) [(.tmp 97)])), 0, []⟩,
⟨(some 99), (some (94, true)), (.p (.un .not (.tmp 98))), 0, []⟩,
⟨(some 100), (some (91, false)), (.p (.pick (.tmp 94) (.tmp 99) (.c (.bool false)))), 0, []⟩,
⟨(some 101), none, (.p (.pick (.tmp 91) (.c (.bool true)) (.tmp 100))), 0, []⟩,
⟨(some 102), none, (.h (.call (.tmp 84) [(.tmp 101), (.c (.int .i64 9))])), 0, []⟩])
(.seq
(.ops [⟨(some 103), none, (.p (.mv (.tmp 6))), 0, []⟩,
⟨(some 104), none, (.p (.bin .eql (.tmp 103) (.c (.int .i64 2)))), 0, []⟩])
(.cond (.tmp 104)
(.ops [⟨(some 105), none, (.p (.mv (.tmp 4))), 0, []⟩,
⟨(some 106), none, (.p (.fieldAt 2 (.tmp 3))), 0, []⟩,
⟨(some 107), none, (.r (.load 1 false (.tmp 106))), 0, []⟩,
⟨(some 108), none, (.p (.build [(.str []), (.str []), (.int .i64 0), .nilsl] [(0, (1, (.c (.str [110, 117, 109])))), (1, (1, (.c (.str [48])))), (2, (1, (.tmp 107)))])), 0, []⟩,
⟨(some 109), none, (.a (.mkSl [(.str []), (.str []), (.int .i64 0), .nilsl] 4 1 [(0, (4, (.tmp 108)))])), 0, []⟩,
⟨(some 110), none, (.h (.call (.c (.fn 25 [] [])) [(.c (.str [102, 105, 101, 108, 100])), (.tmp 109)])), 0, []⟩,
⟨(some 111), none, (.a (.mkSl [(.str []), (.str []), (.int .i64 0), .nilsl] 4 1 [(0, (4, (.tmp 110)))])), 0, []⟩,
⟨(some 112), none, (.h (.app 4 64 (.tmp 105) (.tmp 111))), 0, []⟩,
⟨(some 4), none, (.p (.mv (.tmp 112))), 0, []⟩])
.skip)))
(.exit 0))))
(.seq
(.ops [⟨(some 113), none, (.p (.mv (.tmp 5))), 0, []⟩,
⟨(some 114), none, (.p (.mv (.tmp 6))), 0, []⟩,
⟨(some 115), none, (.p (.bin .neq (.tmp 114) (.c (.int .i64 2)))), 0, []⟩,
⟨(some 116), none, (.h (.call (.tmp 113) [(.tmp 115), (.c (.int .i64 9))])), 0, []⟩])
(.exit 0))))
(.seq
(.ops [⟨(some 117), none, (.p (.mv (.tmp 5))), 0, []⟩,
⟨(some 118), none, (.p (.mv (.tmp 6))), 0, []⟩,
⟨(some 119), none, (.p (.bin .lss (.tmp 118) (.c (.int .i64 1)))), 0, []⟩,
⟨(some 120), none, (.h (.call (.tmp 117) [(.tmp 119), (.c (.int .i64 9))])), 0, []⟩])
(.exit 0))))
(.seq
(.ops [⟨(some 121), none, (.p (.mv (.tmp 5))), 0, []⟩,
⟨(some 122), none, (.p (.mv (.tmp 6))), 0, []⟩,
⟨(some 123), none, (.p (.bin .neq (.tmp 122) (.c (.int .i64 0)))), 0, []⟩,
⟨(some 124), none, (.h (.call (.tmp 121) [(.tmp 123), (.c (.int .i64 9))])), 0, []⟩])
(.exit 0))))
(.ops [⟨(some 125), none, (.p (.mv (.tmp 5))), 0, []⟩,
⟨(some 126), none, (.p (.mv (.tmp 6))), 0, []⟩,
⟨(some 127), none, (.p (.bin .eql (.tmp 126) (.c (.int .i64 0)))), 0, []⟩,
⟨(some 128), none, (.h (.call (.tmp 125) [(.tmp 127), (.c (.int .i64 10))])), 0, []⟩])))
(.seq
(.ops [⟨(some 129), none, (.p (.mv (.tmp 5))), 0, []⟩,
⟨(some 130), none, (.p (.mv (.tmp 6))), 0, []⟩,
⟨(some 131), none, (.p (.bin .neq (.tmp 130) (.c (.int .i64 1)))), 0, []⟩,
⟨(some 132), none, (.h (.call (.tmp 129) [(.tmp 131), (.c (.int .i64 9))])), 0, []⟩])
(.exit 0)))))
(.seq
(.ops [⟨(some 133), none, (.r (.load 3 true (.tmp 3))), 0, []⟩,
⟨(some 134), none, (.p (.mv (.tmp 4))), 0, []⟩,
⟨(some 135), none, (.h (.call (.c (.fn 42 [] [])) [(.c (.str [98, 117, 105, 108, 116, 105, 110])), (.tmp 133), (.tmp 134)])), 0, []⟩,
⟨none, none, (.h (.store 4 (.tmp 2) (.tmp 135))), 0, []⟩])
.ret))))))))))⟩
theorem c130 : Mir.compF Tryz.prog Tryz.f130 = some g130 := by kernel_rfl
/-- (*scribe/regex.reader).alt -/
def g131 : Mir.Fn := ⟨44, [(.cell 2 6 true)],
(.seq
(.ops [⟨(some 2), none, (.a (.alloc [(.int .i64 0), (.int .u64 0), (.int .u64 0), (.int .u64 0), (.int .u64 0), .nilsl])), 0, []⟩])
(.seq
(.ops [⟨(some 6), none, (.p (.mv (.tmp 0))), 0, []⟩,
⟨(some 7), none, (.h (.call (.c (.fn 133 [] [])) [(.tmp 6)])), 0, []⟩,
⟨(some 8), none, (.a (.mkSl [(.int .i64 0), (.int .u64 0), (.int .u64 0), (.int .u64 0), (.int .u64 0), .nilsl] 6 1 [(0, (6, (.tmp 7)))])), 0, []⟩,
⟨(some 3), none, (.p (.mv (.tmp 8))), 0, []⟩])
(.seq
(.seq
(.ops [⟨(some 10), none, (.p (.mv (.tmp 0))), 0, []⟩,
⟨(some 11), none, (.h (.call (.c (.fn 134 [] [])) [(.tmp 10)])), 0, []⟩,
⟨(some 9), none, (.p (.mv (.tmp 11))), 0, []⟩,
⟨(some 12), none, (.p (.ext (.tmp 9) 0)), 0, []⟩,
⟨(some 13), none, (.p (.ext (.tmp 9) 1)), 0, []⟩,
⟨(some 4), none, (.p (.mv (.tmp 12))), 0, []⟩,
⟨(some 5), none, (.p (.mv (.tmp 13))), 0, []⟩])
(.block 0 (.loop (.seq
(.seq
(.ops [⟨(some 14), none, (.p (.mv (.tmp 5))), 0, []⟩,
⟨(some 15), none, (.p (.mv (.tmp 14))), 0, []⟩,
⟨(some 16), (some (15, true)), (.p (.mv (.tmp 4))), 0, []⟩,
⟨(some 17), (some (15, true)), (.p (.bin .eql (.tmp 16) (.c (.int .u8 124)))), 0, []⟩,
⟨(some 18), none, (.p (.pick (.tmp 15) (.tmp 17) (.c (.bool false)))), 0, []⟩])
(.cond (.tmp 18)
.skip
(.exit 0)))
(.seq
(.block 1 (.seq
(.ops [⟨(some 24), none, (.p (.mv (.tmp 0))), 0, []⟩,
⟨(some 25), none, (.p (.nilchk (.tmp 24))), 0, []⟩,
⟨(some 26), none, (.p (.fieldAt 1 (.tmp 25))), 0, []⟩,
⟨(some 27), none, (.r (.load 1 false (.tmp 26))), 0, []⟩,
⟨(some 28), none, (.p (.bin .add (.tmp 27) (.c (.int .i64 1)))), 0, []⟩,
⟨(some 29), none, (.p (.nilchk (.tmp 24))), 0, []⟩,
⟨(some 30), none, (.p (.fieldAt 1 (.tmp 29))), 0, []⟩,
⟨none, none, (.h (.store 1 (.tmp 30) (.tmp 28))), 0, []⟩])
(.ops [⟨(some 31), none, (.p (.mv (.tmp 3))), 0, []⟩,
⟨(some 32), none, (.p (.mv (.tmp 0))), 0, []⟩,
⟨(some 33), none, (.h (.call (.c (.fn 133 [] [])) [(.tmp 32)])), 0, []⟩,
⟨(some 34), none, (.a (.mkSl [(.int .i64 0), (.int .u64 0), (.int .u64 0), (.int .u64 0), (.int .u64 0), .nilsl] 6 1 [(0, (6, (.tmp 33)))])), 0, []⟩,
⟨(some 35), none, (.h (.app 6 64 (.tmp 31) (.tmp 34))), 0, []⟩,
⟨(some 3), none, (.p (.mv (.tmp 35))), 0, []⟩])))
(.ops [⟨(some 20), none, (.p (.mv (.tmp 0))), 0, []⟩,
⟨(some 21), none, (.h (.call (.c (.fn 134 [] [])) [(.tmp 20)])), 0, []⟩,
⟨(some 19), none, (.p (.mv (.tmp 21))), 0, []⟩,
⟨(some 22), none, (.p (.ext (.tmp 19) 0)), 0, []⟩,
⟨(some 23), none, (.p (.ext (.tmp 19) 1)), 0, []⟩,
⟨(some 4), none, (.p (.mv (.tmp 22))), 0, []⟩,
⟨(some 5), none, (.p (.mv (.tmp 23))), 0, []⟩]))))))
(.seq
(.seq
(.ops [⟨(some 36), none, (.p (.mv (.tmp 3))), 0, []⟩,
⟨(some 37), none, (.p (.lenSl (.tmp 36))), 0, []⟩,
⟨(some 38), none, (.p (.bin .eql (.tmp 37) (.c (.int .i64 1)))), 0, []⟩])
(.cond (.tmp 38)
(.seq
(.ops [⟨(some 39), none, (.p (.mv (.tmp 3))), 0, []⟩,
⟨(some 40), none, (.p (.idxSl 6 (.tmp 39) (.c (.int .i64 0)))), 0, []⟩,
⟨(some 41), none, (.r (.load 6 true (.tmp 40))), 0, []⟩,
⟨none, none, (.h (.store 6 (.tmp 2) (.tmp 41))), 0, []⟩])
.ret)
.skip))
(.seq
(.ops [⟨(some 42), none, (.p (.mv (.tmp 3))), 0, []⟩,
⟨(some 43), none, (.p (.build [(.int .i64 0), (.int .u64 0), (.int .u64 0), (.int .u64 0), (.int .u64 0), .nilsl] [(0, (1, (.c (.int .i64 3)))), (5, (1, (.tmp 42)))])), 0, []⟩,
⟨none, none, (.h (.store 6 (.tmp 2) (.tmp 43))), 0, []⟩])
.ret)))))⟩
theorem c131 : Mir.compF Tryz.prog Tryz.f131 = some g131 := by kernel_rfl
/-- (*scribe/parse.parser).builtin$1 -/
def g132 : Mir.Fn := ⟨23, [],
(.seq
(.ops [⟨(some 6), none, (.p (.mv (.tmp 0))), 0, []⟩,
⟨(some 7), none, (.p (.mv (.tmp 6))), 0, []⟩,
⟨(some 8), (some (7, true)), (.r (.load 1 false (.tmp 2))), 0, []⟩,
⟨(some 9), (some (7, true)), (.p (.nilchk (.tmp 8))), 0, []⟩,
⟨(some 10), (some (7, true)), (.p (.fieldAt 4 (.tmp 9))), 0, []⟩,
⟨(some 11), (some (7, true)), (.r (.load 1 false (.tmp 10))), 0, []⟩,
⟨(some 12), (some (7, true)), (.p (.bin .eql (.tmp 11) (.c (.int .i64 0)))), 0, []⟩,
⟨(some 13), none, (.p (.pick (.tmp 7) (.tmp 12) (.c (.bool false)))), 0, []⟩])
(.cond (.tmp 13)
(.draw [⟨(some 14), none, (.r (.load 1 false (.tmp 2))), 0, []⟩,
⟨(some 15), none, (.r (.load 1 false (.tmp 2))), 1, []⟩,
⟨(some 16), none, (.p (.mv (.tmp 1))), 2, []⟩,
⟨(some 17), none, (.p (.fieldAt 2 (.tmp 3))), 3, []⟩,
⟨(some 18), none, (.r (.load 1 false (.tmp 17))), 4, []⟩,
⟨(some 19), none, (.p (.nilchk (.tmp 14))), 5, []⟩,
⟨(some 20), none, (.p (.fieldAt 4 (.tmp 19))), 6, []⟩,
⟨none, none, (.h (.store 1 (.tmp 20) (.tmp 16))), 7, [1, 4]⟩,
⟨(some 21), none, (.p (.nilchk (.tmp 15))), 8, []⟩,
⟨(some 22), none, (.p (.fieldAt 5 (.tmp 21))), 9, []⟩,
⟨none, none, (.h (.store 1 (.tmp 22) (.tmp 18))), 10, []⟩])
.skip))⟩
theorem c132 : Mir.compF Tryz.prog Tryz.f132 = some g132 := by kernel_rfl
/-- (*scribe/regex.reader).cat -/
def g133 : Mir.Fn := ⟨82, [(.cell 2 6 true)],
(.seq
(.ops [⟨(some 2), none, (.a (.alloc [(.int .i64 0), (.int .u64 0), (.int .u64 0), (.int .u64 0), (.int .u64 0), .nilsl])), 0, []⟩])
(.seq
(.ops [⟨(some 3), none, (.p (.mv (.c .nilsl))), 0, []⟩])
(.seq
.skip
(.seq
(.block 0 (.loop (.block 1 (.seq
(.seq
(.ops [⟨(some 11), none, (.p (.mv (.tmp 0))), 0, []⟩,
⟨(some 12), none, (.h (.call (.c (.fn 134 [] [])) [(.tmp 11)])), 0, []⟩,
⟨(some 10), none, (.p (.mv (.tmp 12))), 0, []⟩,
⟨(some 13), none, (.p (.ext (.tmp 10) 0)), 0, []⟩,
⟨(some 14), none, (.p (.ext (.tmp 10) 1)), 0, []⟩,
⟨(some 4), none, (.p (.mv (.tmp 13))), 0, []⟩,
⟨(some 5), none, (.p (.mv (.tmp 14))), 0, []⟩])
(.block 2 (.seq
(.seq
(.ops [⟨(some 16), none, (.p (.mv (.tmp 5))), 0, []⟩,
⟨(some 17), none, (.p (.un .not (.tmp 16))), 0, []⟩,
⟨(some 15), none, (.p (.mv (.tmp 17))), 0, []⟩])
(.cond (.tmp 15)
.skip
(.seq
(.ops [⟨(some 18), none, (.p (.mv (.tmp 4))), 0, []⟩,
⟨(some 19), none, (.p (.bin .eql (.tmp 18) (.c (.int .u8 124)))), 0, []⟩,
⟨(some 15), none, (.p (.mv (.tmp 19))), 0, []⟩])
(.cond (.tmp 15)
.skip
(.ops [⟨(some 20), none, (.p (.mv (.tmp 4))), 0, []⟩,
⟨(some 21), none, (.p (.bin .eql (.tmp 20) (.c (.int .u8 41)))), 0, []⟩,
⟨(some 22), none, (.p (.mv (.tmp 21))), 0, []⟩,
⟨(some 23), (some (22, true)), (.p (.mv (.tmp 0))), 0, []⟩,
⟨(some 24), (some (22, true)), (.p (.nilchk (.tmp 23))), 0, []⟩,
⟨(some 25), (some (22, true)), (.p (.fieldAt 2 (.tmp 24))), 0, []⟩,
⟨(some 26), (some (22, true)), (.r (.load 1 false (.tmp 25))), 0, []⟩,
⟨(some 27), (some (22, true)), (.p (.bin .gtr (.tmp 26) (.c (.int .i64 0)))), 0, []⟩,
⟨(some 28), none, (.p (.pick (.tmp 22) (.tmp 27) (.c (.bool false)))), 0, []⟩,
⟨(some 15), none, (.p (.mv (.tmp 28))), 0, []⟩])))))
(.cond (.tmp 15)
(.exit 0)
(.seq
(.ops [⟨(some 30), none, (.p (.mv (.tmp 4))), 0, []⟩,
⟨(some 31), none, (.p (.bin .eql (.tmp 30) (.c (.int .u8 41)))), 0, []⟩,
⟨(some 29), none, (.p (.mv (.tmp 31))), 0, []⟩])
(.cond (.tmp 29)
(.seq
(.ops [⟨(some 32), none, (.p (.mv (.tmp 0))), 0, []⟩,
⟨(some 33), none, (.p (.mv (.tmp 0))), 0, []⟩,
⟨(some 34), none, (.p (.nilchk (.tmp 33))), 0, []⟩,
⟨(some 35), none, (.p (.fieldAt 1 (.tmp 34))), 0, []⟩,
⟨(some 36), none, (.r (.load 1 false (.tmp 35))), 0, []⟩,
⟨(some 37), none, (.h (.call (.c (.fn 135 [] [])) [(.tmp 32), (.tmp 36), (.c (.int .i64 9))])), 0, []⟩])
(.exit 0))
.skip))))))
(.seq
(.ops [⟨(some 38), none, (.p (.mv (.tmp 0))), 0, []⟩,
⟨(some 39), none, (.h (.call (.c (.fn 136 [] [])) [(.tmp 38)])), 0, []⟩,
⟨(some 6), none, (.a (.alloc [(.int .i64 0), (.int .u64 0), (.int .u64 0), (.int .u64 0), (.int .u64 0), .nilsl])), 0, []⟩,
⟨none, none, (.h (.store 6 (.tmp 6) (.tmp 39))), 0, []⟩])
(.seq
(.block 3 (.loop (.block 4 (.seq
(.ops [⟨(some 41), none, (.p (.mv (.tmp 0))), 0, []⟩,
⟨(some 42), none, (.h (.call (.c (.fn 134 [] [])) [(.tmp 41)])), 0, []⟩,
⟨(some 40), none, (.p (.mv (.tmp 42))), 0, []⟩,
⟨(some 43), none, (.p (.ext (.tmp 40) 0)), 0, []⟩,
⟨(some 44), none, (.p (.ext (.tmp 40) 1)), 0, []⟩,
⟨(some 7), none, (.p (.mv (.tmp 43))), 0, []⟩,
⟨(some 8), none, (.p (.mv (.tmp 44))), 0, []⟩])
(.seq
(.ops [⟨(some 45), none, (.a .mkMap), 0, []⟩,
⟨none, none, (.h (.mapUpd (.one .int) (.tmp 45) (.c (.int .u8 42)) (.c (.int .i64 4)))), 0, []⟩,
⟨none, none, (.h (.mapUpd (.one .int) (.tmp 45) (.c (.int .u8 43)) (.c (.int .i64 5)))), 0, []⟩,
⟨none, none, (.h (.mapUpd (.one .int) (.tmp 45) (.c (.int .u8 63)) (.c (.int .i64 6)))), 0, []⟩,
⟨(some 46), none, (.p (.mv (.tmp 45))), 0, []⟩,
⟨(some 47), none, (.p (.mv (.tmp 7))), 0, []⟩,
⟨(some 48), none, (.r (.lookup (.one .int) (.int .i64 0) false (.tmp 46) (.tmp 47))), 0, []⟩,
⟨(some 9), none, (.p (.mv (.tmp 48))), 0, []⟩])
(.seq
(.seq
(.ops [⟨(some 49), none, (.p (.mv (.tmp 8))), 0, []⟩,
⟨(some 50), none, (.p (.un .not (.tmp 49))), 0, []⟩,
⟨(some 51), none, (.p (.mv (.tmp 50))), 0, []⟩,
⟨(some 52), (some (51, false)), (.p (.mv (.tmp 9))), 0, []⟩,
⟨(some 53), (some (51, false)), (.p (.bin .eql (.tmp 52) (.c (.int .i64 0)))), 0, []⟩,
⟨(some 54), none, (.p (.pick (.tmp 51) (.c (.bool true)) (.tmp 53))), 0, []⟩])
(.cond (.tmp 54)
(.exit 3)
.skip))
(.seq
(.ops [⟨(some 55), none, (.p (.mv (.tmp 0))), 0, []⟩,
⟨(some 56), none, (.p (.nilchk (.tmp 55))), 0, []⟩,
⟨(some 57), none, (.p (.fieldAt 1 (.tmp 56))), 0, []⟩,
⟨(some 58), none, (.r (.load 1 false (.tmp 57))), 0, []⟩,
⟨(some 59), none, (.p (.bin .add (.tmp 58) (.c (.int .i64 1)))), 0, []⟩,
⟨(some 60), none, (.p (.nilchk (.tmp 55))), 0, []⟩,
⟨(some 61), none, (.p (.fieldAt 1 (.tmp 60))), 0, []⟩,
⟨none, none, (.h (.store 1 (.tmp 61) (.tmp 59))), 0, []⟩])
(.ops [⟨(some 62), none, (.p (.mv (.tmp 9))), 0, []⟩,
⟨(some 63), none, (.r (.load 6 true (.tmp 6))), 0, []⟩,
⟨(some 64), none, (.a (.mkSl [(.int .i64 0), (.int .u64 0), (.int .u64 0), (.int .u64 0), (.int .u64 0), .nilsl] 6 1 [(0, (6, (.tmp 63)))])), 0, []⟩,
⟨(some 65), none, (.p (.build [(.int .i64 0), (.int .u64 0), (.int .u64 0), (.int .u64 0), (.int .u64 0), .nilsl] [(0, (1, (.tmp 62))), (5, (1, (.tmp 64)))])), 0, []⟩,
⟨none, none, (.h (.store 6 (.tmp 6) (.tmp 65))), 0, []⟩]))))))))
(.ops [⟨(some 66), none, (.p (.mv (.tmp 3))), 0, []⟩,
⟨(some 67), none, (.r (.load 6 true (.tmp 6))), 0, []⟩,
⟨(some 68), none, (.a (.mkSl [(.int .i64 0), (.int .u64 0), (.int .u64 0), (.int .u64 0), (.int .u64 0), .nilsl] 6 1 [(0, (6, (.tmp 67)))])), 0, []⟩,
⟨(some 69), none, (.h (.app 6 64 (.tmp 66) (.tmp 68))), 0, []⟩,
⟨(some 3), none, (.p (.mv (.tmp 69))), 0, []⟩])))))))
(.seq
(.seq
(.ops [⟨(some 70), none, (.p (.mv (.tmp 3))), 0, []⟩,
⟨(some 71), none, (.p (.lenSl (.tmp 70))), 0, []⟩])
(.block 5 (.seq
(.ops [⟨(some 73), none, (.p (.bin .eql (.tmp 71) (.c (.int .i64 0)))), 0, []⟩,
⟨(some 72), none, (.p (.mv (.tmp 73))), 0, []⟩])
(.cond (.tmp 72)
(.seq
(.ops [⟨(some 74), none, (.p (.build [(.int .i64 0), (.int .u64 0), (.int .u64 0), (.int .u64 0), (.int .u64 0), .nilsl] [])), 0, []⟩,
⟨none, none, (.h (.store 6 (.tmp 2) (.tmp 74))), 0, []⟩])
.ret)
(.seq
(.ops [⟨(some 76), none, (.p (.bin .eql (.tmp 71) (.c (.int .i64 1)))), 0, []⟩,
⟨(some 75), none, (.p (.mv (.tmp 76))), 0, []⟩])
(.cond (.tmp 75)
(.seq
(.ops [⟨(some 77), none, (.p (.mv (.tmp 3))), 0, []⟩,
⟨(some 78), none, (.p (.idxSl 6 (.tmp 77) (.c (.int .i64 0)))), 0, []⟩,
⟨(some 79), none, (.r (.load 6 true (.tmp 78))), 0, []⟩,
⟨none, none, (.h (.store 6 (.tmp 2) (.tmp 79))), 0, []⟩])
.ret)
.skip))))))
(.seq
(.ops [⟨(some 80), none, (.p (.mv (.tmp 3))), 0, []⟩,
⟨(some 81), none, (.p (.build [(.int .i64 0), (.int .u64 0), (.int .u64 0), (.int .u64 0), (.int .u64 0), .nilsl] [(0, (1, (.c (.int .i64 2)))), (5, (1, (.tmp 80)))])), 0, []⟩,
⟨none, none, (.h (.store 6 (.tmp 2) (.tmp 81))), 0, []⟩])
.ret))))))⟩
theorem c133 : Mir.compF Tryz.prog Tryz.f133 = some g133 := by kernel_rfl
/-- (*scribe/regex.reader).next -/
def g134 : Mir.Fn := ⟨30, [(.tmp 2), (.tmp 3)],
(.seq
(.ops [⟨(some 2), none, (.p (.mv (.c (.int .u8 0)))), 0, []⟩,
⟨(some 3), none, (.p (.mv (.c (.bool false)))), 0, []⟩])
(.seq
(.seq
(.draw [⟨(some 4), none, (.p (.mv (.tmp 0))), 0, []⟩,
⟨(some 5), none, (.p (.nilchk (.tmp 4))), 1, []⟩,
⟨(some 6), none, (.p (.fieldAt 3 (.tmp 5))), 2, []⟩,
⟨(some 7), none, (.r (.load 1 false (.tmp 6))), 3, []⟩,
⟨(some 8), none, (.p (.bin .neq (.tmp 7) (.c (.int .i64 0)))), 4, []⟩,
⟨(some 9), none, (.p (.mv (.tmp 8))), 5, []⟩,
⟨(some 10), (some (9, false)), (.p (.mv (.tmp 0))), 6, []⟩,
⟨(some 11), (some (9, false)), (.p (.nilchk (.tmp 10))), 7, []⟩,
⟨(some 12), (some (9, false)), (.p (.fieldAt 1 (.tmp 11))), 8, []⟩,
⟨(some 13), (some (9, false)), (.r (.load 1 false (.tmp 12))), 9, []⟩,
⟨(some 14), (some (9, false)), (.p (.mv (.tmp 0))), 10, []⟩,
⟨(some 15), (some (9, false)), (.p (.nilchk (.tmp 14))), 11, []⟩,
⟨(some 16), (some (9, false)), (.p (.fieldAt 0 (.tmp 15))), 12, []⟩,
⟨(some 17), (some (9, false)), (.r (.load 1 false (.tmp 16))), 13, []⟩,
⟨(some 18), (some (9, false)), (.p (.lenStr (.tmp 17))), 14, []⟩,
⟨(some 19), (some (9, false)), (.p (.bin .geq (.tmp 13) (.tmp 18))), 15, []⟩,
⟨(some 20), none, (.p (.pick (.tmp 9) (.c (.bool true)) (.tmp 19))), 16, []⟩])
(.cond (.tmp 20)
(.seq
(.ops [⟨(some 2), none, (.p (.mv (.c (.int .u8 0)))), 0, []⟩,
⟨(some 3), none, (.p (.mv (.c (.bool false)))), 0, []⟩])
.ret)
.skip))
(.seq
(.draw [⟨(some 21), none, (.p (.mv (.tmp 0))), 0, []⟩,
⟨(some 22), none, (.p (.nilchk (.tmp 21))), 1, []⟩,
⟨(some 23), none, (.p (.fieldAt 0 (.tmp 22))), 2, []⟩,
⟨(some 24), none, (.r (.load 1 false (.tmp 23))), 3, []⟩,
⟨(some 25), none, (.p (.mv (.tmp 0))), 4, []⟩,
⟨(some 26), none, (.p (.nilchk (.tmp 25))), 5, []⟩,
⟨(some 27), none, (.p (.fieldAt 1 (.tmp 26))), 6, []⟩,
⟨(some 28), none, (.r (.load 1 false (.tmp 27))), 7, []⟩,
⟨(some 29), none, (.p (.idxStr (.tmp 24) (.tmp 28))), 8, []⟩,
⟨(some 2), none, (.p (.mv (.tmp 29))), 9, []⟩,
⟨(some 3), none, (.p (.mv (.c (.bool true)))), 10, []⟩])
.ret)))⟩
theorem c134 : Mir.compF Tryz.prog Tryz.f134 = some g134 := by kernel_rfl
/-- (*scribe/regex.reader).fail -/
def g135 : Mir.Fn := ⟨19, [],
(.seq
(.ops [⟨(some 6), none, (.p (.mv (.tmp 0))), 0, []⟩,
⟨(some 7), none, (.p (.nilchk (.tmp 6))), 0, []⟩,
⟨(some 8), none, (.p (.fieldAt 3 (.tmp 7))), 0, []⟩,
⟨(some 9), none, (.r (.load 1 false (.tmp 8))), 0, []⟩,
⟨(some 10), none, (.p (.bin .eql (.tmp 9) (.c (.int .i64 0)))), 0, []⟩])
(.cond (.tmp 10)
(.ops [⟨(some 11), none, (.p (.mv (.tmp 0))), 0, []⟩,
⟨(some 12), none, (.p (.mv (.tmp 0))), 0, []⟩,
⟨(some 13), none, (.p (.mv (.tmp 2))), 0, []⟩,
⟨(some 14), none, (.p (.mv (.tmp 1))), 0, []⟩,
⟨(some 15), none, (.p (.nilchk (.tmp 11))), 0, []⟩,
⟨(some 16), none, (.p (.fieldAt 3 (.tmp 15))), 0, []⟩,
⟨none, none, (.h (.store 1 (.tmp 16) (.tmp 13))), 0, []⟩,
⟨(some 17), none, (.p (.nilchk (.tmp 12))), 0, []⟩,
⟨(some 18), none, (.p (.fieldAt 4 (.tmp 17))), 0, []⟩,
⟨none, none, (.h (.store 1 (.tmp 18) (.tmp 14))), 0, []⟩])
.skip))⟩
theorem c135 : Mir.compF Tryz.prog Tryz.f135 = some g135 := by kernel_rfl
/-- (*scribe/regex.reader).atom -/
def g136 : Mir.Fn := ⟨110, [(.cell 2 6 true)],
(.seq
(.ops [⟨(some 2), none, (.a (.alloc [(.int .i64 0), (.int .u64 0), (.int .u64 0), (.int .u64 0), (.int .u64 0), .nilsl])), 0, []⟩])
(.seq
(.ops [⟨(some 10), none, (.p (.mv (.tmp 0))), 0, []⟩,
⟨(some 11), none, (.h (.call (.c (.fn 134 [] [])) [(.tmp 10)])), 0, []⟩,
⟨(some 9), none, (.p (.mv (.tmp 11))), 0, []⟩,
⟨(some 12), none, (.p (.ext (.tmp 9) 0)), 0, []⟩,
⟨(some 13), none, (.p (.ext (.tmp 9) 1)), 0, []⟩,
⟨(some 3), none, (.p (.mv (.tmp 12))), 0, []⟩,
⟨(some 4), none, (.p (.mv (.tmp 13))), 0, []⟩])
(.seq
(.ops [⟨(some 14), none, (.p (.mv (.tmp 0))), 0, []⟩,
⟨(some 15), none, (.p (.nilchk (.tmp 14))), 0, []⟩,
⟨(some 16), none, (.p (.fieldAt 1 (.tmp 15))), 0, []⟩,
⟨(some 17), none, (.r (.load 1 false (.tmp 16))), 0, []⟩,
⟨(some 18), none, (.p (.bin .add (.tmp 17) (.c (.int .i64 1)))), 0, []⟩,
⟨(some 19), none, (.p (.nilchk (.tmp 14))), 0, []⟩,
⟨(some 20), none, (.p (.fieldAt 1 (.tmp 19))), 0, []⟩,
⟨none, none, (.h (.store 1 (.tmp 20) (.tmp 18))), 0, []⟩])
(.seq
(.seq
(.ops [⟨(some 21), none, (.p (.mv (.tmp 3))), 0, []⟩])
(.block 0 (.seq
(.ops [⟨(some 23), none, (.p (.bin .eql (.tmp 21) (.c (.int .u8 40)))), 0, []⟩,
⟨(some 22), none, (.p (.mv (.tmp 23))), 0, []⟩])
(.cond (.tmp 22)
(.seq
(.ops [⟨(some 24), none, (.p (.mv (.tmp 0))), 0, []⟩,
⟨(some 25), none, (.p (.nilchk (.tmp 24))), 0, []⟩,
⟨(some 26), none, (.p (.fieldAt 1 (.tmp 25))), 0, []⟩,
⟨(some 27), none, (.r (.load 1 false (.tmp 26))), 0, []⟩,
⟨(some 28), none, (.p (.bin .sub (.tmp 27) (.c (.int .i64 1)))), 0, []⟩,
⟨(some 5), none, (.p (.mv (.tmp 28))), 0, []⟩])
(.seq
(.seq
(.ops [⟨(some 29), none, (.p (.mv (.tmp 0))), 0, []⟩,
⟨(some 30), none, (.p (.nilchk (.tmp 29))), 0, []⟩,
⟨(some 31), none, (.p (.fieldAt 2 (.tmp 30))), 0, []⟩,
⟨(some 32), none, (.r (.load 1 false (.tmp 31))), 0, []⟩,
⟨(some 33), none, (.p (.bin .add (.tmp 32) (.c (.int .i64 1)))), 0, []⟩,
⟨(some 34), none, (.p (.nilchk (.tmp 29))), 0, []⟩,
⟨(some 35), none, (.p (.fieldAt 2 (.tmp 34))), 0, []⟩,
⟨none, none, (.h (.store 1 (.tmp 35) (.tmp 33))), 0, []⟩])
(.seq
(.ops [⟨(some 36), none, (.p (.mv (.tmp 0))), 0, []⟩,
⟨(some 37), none, (.p (.nilchk (.tmp 36))), 0, []⟩,
⟨(some 38), none, (.p (.fieldAt 2 (.tmp 37))), 0, []⟩,
⟨(some 39), none, (.r (.load 1 false (.tmp 38))), 0, []⟩,
⟨(some 40), none, (.p (.bin .gtr (.tmp 39) (.c (.int .i64 20)))), 0, []⟩])
(.cond (.tmp 40)
(.ops [⟨(some 41), none, (.p (.mv (.tmp 0))), 0, []⟩,
⟨(some 42), none, (.p (.mv (.tmp 5))), 0, []⟩,
⟨(some 43), none, (.h (.call (.c (.fn 135 [] [])) [(.tmp 41), (.tmp 42), (.c (.int .i64 14))])), 0, []⟩])
.skip)))
(.seq
(.ops [⟨(some 44), none, (.p (.mv (.tmp 0))), 0, []⟩,
⟨(some 45), none, (.h (.call (.c (.fn 131 [] [])) [(.tmp 44)])), 0, []⟩,
⟨(some 6), none, (.a (.alloc [(.int .i64 0), (.int .u64 0), (.int .u64 0), (.int .u64 0), (.int .u64 0), .nilsl])), 0, []⟩,
⟨none, none, (.h (.store 6 (.tmp 6) (.tmp 45))), 0, []⟩])
(.seq
(.seq
(.ops [⟨(some 47), none, (.p (.mv (.tmp 0))), 0, []⟩,
⟨(some 48), none, (.h (.call (.c (.fn 134 [] [])) [(.tmp 47)])), 0, []⟩,
⟨(some 46), none, (.p (.mv (.tmp 48))), 0, []⟩,
⟨(some 49), none, (.p (.ext (.tmp 46) 0)), 0, []⟩,
⟨(some 50), none, (.p (.ext (.tmp 46) 1)), 0, []⟩,
⟨(some 7), none, (.p (.mv (.tmp 49))), 0, []⟩,
⟨(some 8), none, (.p (.mv (.tmp 50))), 0, []⟩])
(.seq
(.ops [⟨(some 51), none, (.p (.mv (.tmp 8))), 0, []⟩,
⟨(some 52), none, (.p (.un .not (.tmp 51))), 0, []⟩,
⟨(some 53), none, (.p (.mv (.tmp 52))), 0, []⟩,
⟨(some 54), (some (53, false)), (.p (.mv (.tmp 7))), 0, []⟩,
⟨(some 55), (some (53, false)), (.p (.bin .neq (.tmp 54) (.c (.int .u8 41)))), 0, []⟩,
⟨(some 56), none, (.p (.pick (.tmp 53) (.c (.bool true)) (.tmp 55))), 0, []⟩])
(.cond (.tmp 56)
(.ops [⟨(some 57), none, (.p (.mv (.tmp 0))), 0, []⟩,
⟨(some 58), none, (.p (.mv (.tmp 5))), 0, []⟩,
⟨(some 59), none, (.h (.call (.c (.fn 135 [] [])) [(.tmp 57), (.tmp 58), (.c (.int .i64 9))])), 0, []⟩])
.skip)))
(.seq
(.ops [⟨(some 60), none, (.p (.mv (.tmp 0))), 0, []⟩,
⟨(some 61), none, (.p (.nilchk (.tmp 60))), 0, []⟩,
⟨(some 62), none, (.p (.fieldAt 1 (.tmp 61))), 0, []⟩,
⟨(some 63), none, (.r (.load 1 false (.tmp 62))), 0, []⟩,
⟨(some 64), none, (.p (.bin .add (.tmp 63) (.c (.int .i64 1)))), 0, []⟩,
⟨(some 65), none, (.p (.nilchk (.tmp 60))), 0, []⟩,
⟨(some 66), none, (.p (.fieldAt 1 (.tmp 65))), 0, []⟩,
⟨none, none, (.h (.store 1 (.tmp 66) (.tmp 64))), 0, []⟩])
(.seq
(.ops [⟨(some 67), none, (.p (.mv (.tmp 0))), 0, []⟩,
⟨(some 68), none, (.p (.nilchk (.tmp 67))), 0, []⟩,
⟨(some 69), none, (.p (.fieldAt 2 (.tmp 68))), 0, []⟩,
⟨(some 70), none, (.r (.load 1 false (.tmp 69))), 0, []⟩,
⟨(some 71), none, (.p (.bin .sub (.tmp 70) (.c (.int .i64 1)))), 0, []⟩,
⟨(some 72), none, (.p (.nilchk (.tmp 67))), 0, []⟩,
⟨(some 73), none, (.p (.fieldAt 2 (.tmp 72))), 0, []⟩,
⟨none, none, (.h (.store 1 (.tmp 73) (.tmp 71))), 0, []⟩])
(.seq
(.ops [⟨(some 74), none, (.r (.load 6 true (.tmp 6))), 0, []⟩,
⟨none, none, (.h (.store 6 (.tmp 2) (.tmp 74))), 0, []⟩])
.ret)))))))
(.seq
(.ops [⟨(some 76), none, (.p (.bin .eql (.tmp 21) (.c (.int .u8 91)))), 0, []⟩,
⟨(some 75), none, (.p (.mv (.tmp 76))), 0, []⟩])
(.cond (.tmp 75)
(.seq
(.ops [⟨(some 77), none, (.p (.mv (.tmp 0))), 0, []⟩,
⟨(some 78), none, (.h (.call (.c (.fn 137 [] [])) [(.tmp 77)])), 0, []⟩,
⟨(some 79), none, (.p (.build [(.int .i64 0), (.int .u64 0), (.int .u64 0), (.int .u64 0), (.int .u64 0), .nilsl] [(0, (1, (.c (.int .i64 1)))), (1, (4, (.tmp 78)))])), 0, []⟩,
⟨none, none, (.h (.store 6 (.tmp 2) (.tmp 79))), 0, []⟩])
.ret)
(.seq
(.ops [⟨(some 81), none, (.p (.bin .eql (.tmp 21) (.c (.int .u8 46)))), 0, []⟩,
⟨(some 80), none, (.p (.mv (.tmp 81))), 0, []⟩])
(.cond (.tmp 80)
(.seq
(.ops [⟨(some 82), none, (.p (.build [(.int .u64 0), (.int .u64 0), (.int .u64 0), (.int .u64 0)] [])), 0, []⟩,
⟨(some 83), none, (.h (.call (.c (.fn 138 [] [])) [(.tmp 82)])), 0, []⟩,
⟨(some 84), none, (.p (.build [(.int .i64 0), (.int .u64 0), (.int .u64 0), (.int .u64 0), (.int .u64 0), .nilsl] [(0, (1, (.c (.int .i64 1)))), (1, (4, (.tmp 83)))])), 0, []⟩,
⟨none, none, (.h (.store 6 (.tmp 2) (.tmp 84))), 0, []⟩])
.ret)
(.seq
(.ops [⟨(some 86), none, (.p (.bin .eql (.tmp 21) (.c (.int .u8 94)))), 0, []⟩,
⟨(some 85), none, (.p (.mv (.tmp 86))), 0, []⟩])
(.cond (.tmp 85)
(.seq
(.ops [⟨(some 87), none, (.p (.build [(.int .i64 0), (.int .u64 0), (.int .u64 0), (.int .u64 0), (.int .u64 0), .nilsl] [(0, (1, (.c (.int .i64 7))))])), 0, []⟩,
⟨none, none, (.h (.store 6 (.tmp 2) (.tmp 87))), 0, []⟩])
.ret)
(.seq
(.ops [⟨(some 89), none, (.p (.bin .eql (.tmp 21) (.c (.int .u8 36)))), 0, []⟩,
⟨(some 88), none, (.p (.mv (.tmp 89))), 0, []⟩])
(.cond (.tmp 88)
(.seq
(.ops [⟨(some 90), none, (.p (.build [(.int .i64 0), (.int .u64 0), (.int .u64 0), (.int .u64 0), (.int .u64 0), .nilsl] [(0, (1, (.c (.int .i64 8))))])), 0, []⟩,
⟨none, none, (.h (.store 6 (.tmp 2) (.tmp 90))), 0, []⟩])
.ret)
(.seq
(.seq
(.ops [⟨(some 92), none, (.p (.bin .eql (.tmp 21) (.c (.int .u8 42)))), 0, []⟩,
⟨(some 91), none, (.p (.mv (.tmp 92))), 0, []⟩])
(.cond (.tmp 91)
.skip
(.seq
(.ops [⟨(some 93), none, (.p (.bin .eql (.tmp 21) (.c (.int .u8 43)))), 0, []⟩,
⟨(some 91), none, (.p (.mv (.tmp 93))), 0, []⟩])
(.cond (.tmp 91)
.skip
(.ops [⟨(some 94), none, (.p (.bin .eql (.tmp 21) (.c (.int .u8 63)))), 0, []⟩,
⟨(some 91), none, (.p (.mv (.tmp 94))), 0, []⟩])))))
(.cond (.tmp 91)
(.ops [⟨(some 95), none, (.p (.mv (.tmp 0))), 0, []⟩,
⟨(some 96), none, (.p (.mv (.tmp 0))), 0, []⟩,
⟨(some 97), none, (.p (.nilchk (.tmp 96))), 0, []⟩,
⟨(some 98), none, (.p (.fieldAt 1 (.tmp 97))), 0, []⟩,
⟨(some 99), none, (.r (.load 1 false (.tmp 98))), 0, []⟩,
⟨(some 100), none, (.p (.bin .sub (.tmp 99) (.c (.int .i64 1)))), 0, []⟩,
⟨(some 101), none, (.h (.call (.c (.fn 135 [] [])) [(.tmp 95), (.tmp 100), (.c (.int .i64 9))])), 0, []⟩])
(.seq
(.ops [⟨(some 103), none, (.p (.bin .eql (.tmp 21) (.c (.int .u8 92)))), 0, []⟩,
⟨(some 102), none, (.p (.mv (.tmp 103))), 0, []⟩])
(.cond (.tmp 102)
(.ops [⟨(some 104), none, (.p (.mv (.tmp 0))), 0, []⟩,
⟨(some 105), none, (.h (.call (.c (.fn 139 [] [])) [(.tmp 104)])), 0, []⟩,
⟨(some 3), none, (.p (.mv (.tmp 105))), 0, []⟩])
.skip))))))))))))))))
(.seq
(.ops [⟨(some 106), none, (.p (.build [(.int .u64 0), (.int .u64 0), (.int .u64 0), (.int .u64 0)] [])), 0, []⟩,
⟨(some 107), none, (.p (.mv (.tmp 3))), 0, []⟩,
⟨(some 108), none, (.h (.call (.c (.fn 140 [] [])) [(.tmp 106), (.tmp 107)])), 0, []⟩,
⟨(some 109), none, (.p (.build [(.int .i64 0), (.int .u64 0), (.int .u64 0), (.int .u64 0), (.int .u64 0), .nilsl] [(0, (1, (.c (.int .i64 1)))), (1, (4, (.tmp 108)))])), 0, []⟩,
⟨none, none, (.h (.store 6 (.tmp 2) (.tmp 109))), 0, []⟩])
.ret)))))⟩
theorem c136 : Mir.compF Tryz.prog Tryz.f136 = some g136 := by kernel_rfl
/-- (*scribe/regex.reader).set -/
def g137 : Mir.Fn := ⟨147, [(.cell 2 4 true)],
(.seq
(.ops [⟨(some 2), none, (.a (.alloc [(.int .u64 0), (.int .u64 0), (.int .u64 0), (.int .u64 0)])), 0, []⟩])
(.seq
(.ops [⟨(some 13), none, (.p (.mv (.tmp 0))), 0, []⟩,
⟨(some 14), none, (.p (.nilchk (.tmp 13))), 0, []⟩,
⟨(some 15), none, (.p (.fieldAt 1 (.tmp 14))), 0, []⟩,
⟨(some 16), none, (.r (.load 1 false (.tmp 15))), 0, []⟩,
⟨(some 17), none, (.p (.bin .sub (.tmp 16) (.c (.int .i64 1)))), 0, []⟩,
⟨(some 3), none, (.p (.mv (.tmp 17))), 0, []⟩])
(.seq
(.ops [⟨(some 4), none, (.a (.alloc [(.int .u64 0), (.int .u64 0), (.int .u64 0), (.int .u64 0)])), 0, []⟩])
(.seq
(.ops [⟨(some 19), none, (.p (.mv (.tmp 0))), 0, []⟩,
⟨(some 20), none, (.h (.call (.c (.fn 134 [] [])) [(.tmp 19)])), 0, []⟩,
⟨(some 18), none, (.p (.mv (.tmp 20))), 0, []⟩,
⟨(some 21), none, (.p (.ext (.tmp 18) 0)), 0, []⟩,
⟨(some 22), none, (.p (.ext (.tmp 18) 1)), 0, []⟩,
⟨(some 5), none, (.p (.mv (.tmp 21))), 0, []⟩,
⟨(some 6), none, (.p (.mv (.tmp 22))), 0, []⟩])
(.seq
(.ops [⟨(some 23), none, (.p (.mv (.tmp 5))), 0, []⟩,
⟨(some 24), none, (.p (.bin .eql (.tmp 23) (.c (.int .u8 94)))), 0, []⟩,
⟨(some 7), none, (.p (.mv (.tmp 24))), 0, []⟩])
(.seq
(.seq
(.ops [⟨(some 25), none, (.p (.mv (.tmp 7))), 0, []⟩])
(.cond (.tmp 25)
(.ops [⟨(some 26), none, (.p (.mv (.tmp 0))), 0, []⟩,
⟨(some 27), none, (.p (.nilchk (.tmp 26))), 0, []⟩,
⟨(some 28), none, (.p (.fieldAt 1 (.tmp 27))), 0, []⟩,
⟨(some 29), none, (.r (.load 1 false (.tmp 28))), 0, []⟩,
⟨(some 30), none, (.p (.bin .add (.tmp 29) (.c (.int .i64 1)))), 0, []⟩,
⟨(some 31), none, (.p (.nilchk (.tmp 26))), 0, []⟩,
⟨(some 32), none, (.p (.fieldAt 1 (.tmp 31))), 0, []⟩,
⟨none, none, (.h (.store 1 (.tmp 32) (.tmp 30))), 0, []⟩])
.skip))
(.seq
(.seq
(.ops [⟨(some 8), none, (.p (.mv (.c (.bool true)))), 0, []⟩])
(.block 0 (.loop (.seq
(.block 1 (.seq
(.ops [⟨(some 34), none, (.p (.mv (.tmp 0))), 0, []⟩,
⟨(some 35), none, (.h (.call (.c (.fn 134 [] [])) [(.tmp 34)])), 0, []⟩,
⟨(some 33), none, (.p (.mv (.tmp 35))), 0, []⟩,
⟨(some 36), none, (.p (.ext (.tmp 33) 0)), 0, []⟩,
⟨(some 37), none, (.p (.ext (.tmp 33) 1)), 0, []⟩,
⟨(some 9), none, (.p (.mv (.tmp 36))), 0, []⟩,
⟨(some 10), none, (.p (.mv (.tmp 37))), 0, []⟩])
(.seq
(.seq
(.ops [⟨(some 38), none, (.p (.mv (.tmp 10))), 0, []⟩,
⟨(some 39), none, (.p (.un .not (.tmp 38))), 0, []⟩])
(.cond (.tmp 39)
(.seq
(.ops [⟨(some 40), none, (.p (.mv (.tmp 0))), 0, []⟩,
⟨(some 41), none, (.p (.mv (.tmp 3))), 0, []⟩,
⟨(some 42), none, (.h (.call (.c (.fn 135 [] [])) [(.tmp 40), (.tmp 41), (.c (.int .i64 9))])), 0, []⟩])
(.exit 0))
.skip))
(.seq
(.ops [⟨(some 43), none, (.p (.mv (.tmp 0))), 0, []⟩,
⟨(some 44), none, (.p (.nilchk (.tmp 43))), 0, []⟩,
⟨(some 45), none, (.p (.fieldAt 1 (.tmp 44))), 0, []⟩,
⟨(some 46), none, (.r (.load 1 false (.tmp 45))), 0, []⟩,
⟨(some 47), none, (.p (.bin .add (.tmp 46) (.c (.int .i64 1)))), 0, []⟩,
⟨(some 48), none, (.p (.nilchk (.tmp 43))), 0, []⟩,
⟨(some 49), none, (.p (.fieldAt 1 (.tmp 48))), 0, []⟩,
⟨none, none, (.h (.store 1 (.tmp 49) (.tmp 47))), 0, []⟩])
(.seq
(.seq
(.ops [⟨(some 50), none, (.p (.mv (.tmp 9))), 0, []⟩,
⟨(some 51), none, (.p (.bin .eql (.tmp 50) (.c (.int .u8 93)))), 0, []⟩,
⟨(some 52), none, (.p (.mv (.tmp 51))), 0, []⟩,
⟨(some 53), (some (52, true)), (.p (.mv (.tmp 8))), 0, []⟩,
⟨(some 54), (some (52, true)), (.p (.un .not (.tmp 53))), 0, []⟩,
⟨(some 55), none, (.p (.pick (.tmp 52) (.tmp 54) (.c (.bool false)))), 0, []⟩])
(.cond (.tmp 55)
(.exit 0)
.skip))
(.seq
(.seq
(.ops [⟨(some 56), none, (.p (.mv (.tmp 9))), 0, []⟩,
⟨(some 57), none, (.p (.bin .eql (.tmp 56) (.c (.int .u8 92)))), 0, []⟩])
(.cond (.tmp 57)
(.ops [⟨(some 58), none, (.p (.mv (.tmp 0))), 0, []⟩,
⟨(some 59), none, (.h (.call (.c (.fn 139 [] [])) [(.tmp 58)])), 0, []⟩,
⟨(some 9), none, (.p (.mv (.tmp 59))), 0, []⟩])
.skip))
(.seq
(.ops [⟨(some 60), none, (.p (.mv (.tmp 9))), 0, []⟩,
⟨(some 11), none, (.p (.mv (.tmp 60))), 0, []⟩])
(.seq
(.seq
(.draw [⟨(some 61), none, (.p (.mv (.tmp 0))), 0, []⟩,
⟨(some 62), none, (.p (.nilchk (.tmp 61))), 1, []⟩,
⟨(some 63), none, (.p (.fieldAt 1 (.tmp 62))), 2, []⟩,
⟨(some 64), none, (.r (.load 1 false (.tmp 63))), 3, []⟩,
⟨(some 65), none, (.p (.bin .add (.tmp 64) (.c (.int .i64 1)))), 4, []⟩,
⟨(some 66), none, (.p (.mv (.tmp 0))), 5, []⟩,
⟨(some 67), none, (.p (.nilchk (.tmp 66))), 6, []⟩,
⟨(some 68), none, (.p (.fieldAt 0 (.tmp 67))), 7, []⟩,
⟨(some 69), none, (.r (.load 1 false (.tmp 68))), 8, []⟩,
⟨(some 70), none, (.p (.lenStr (.tmp 69))), 9, []⟩,
⟨(some 71), none, (.p (.bin .lss (.tmp 65) (.tmp 70))), 10, []⟩,
⟨(some 72), none, (.p (.mv (.tmp 71))), 11, []⟩,
⟨(some 73), (some (72, true)), (.p (.mv (.tmp 0))), 12, []⟩,
⟨(some 74), (some (72, true)), (.p (.nilchk (.tmp 73))), 13, []⟩,
⟨(some 75), (some (72, true)), (.p (.fieldAt 0 (.tmp 74))), 14, []⟩,
⟨(some 76), (some (72, true)), (.r (.load 1 false (.tmp 75))), 15, []⟩,
⟨(some 77), (some (72, true)), (.p (.mv (.tmp 0))), 16, []⟩,
⟨(some 78), (some (72, true)), (.p (.nilchk (.tmp 77))), 17, []⟩,
⟨(some 79), (some (72, true)), (.p (.fieldAt 1 (.tmp 78))), 18, []⟩,
⟨(some 80), (some (72, true)), (.r (.load 1 false (.tmp 79))), 19, []⟩,
⟨(some 81), (some (72, true)), (.p (.idxStr (.tmp 76) (.tmp 80))), 20, []⟩,
⟨(some 82), (some (72, true)), (.p (.bin .eql (.tmp 81) (.c (.int .u8 45)))), 21, []⟩,
⟨(some 83), none, (.p (.pick (.tmp 72) (.tmp 82) (.c (.bool false)))), 22, []⟩,
⟨(some 84), none, (.p (.mv (.tmp 83))), 23, []⟩,
⟨(some 85), (some (84, true)), (.p (.mv (.tmp 0))), 24, []⟩,
⟨(some 86), (some (84, true)), (.p (.nilchk (.tmp 85))), 25, []⟩,
⟨(some 87), (some (84, true)), (.p (.fieldAt 0 (.tmp 86))), 26, []⟩,
⟨(some 88), (some (84, true)), (.r (.load 1 false (.tmp 87))), 27, []⟩,
⟨(some 89), (some (84, true)), (.p (.mv (.tmp 0))), 28, []⟩,
⟨(some 90), (some (84, true)), (.p (.nilchk (.tmp 89))), 29, []⟩,
⟨(some 91), (some (84, true)), (.p (.fieldAt 1 (.tmp 90))), 30, []⟩,
⟨(some 92), (some (84, true)), (.r (.load 1 false (.tmp 91))), 31, []⟩,
⟨(some 93), (some (84, true)), (.p (.bin .add (.tmp 92) (.c (.int .i64 1)))), 32, []⟩,
⟨(some 94), (some (84, true)), (.p (.idxStr (.tmp 88) (.tmp 93))), 33, []⟩,
⟨(some 95), (some (84, true)), (.p (.bin .neq (.tmp 94) (.c (.int .u8 93)))), 34, []⟩,
⟨(some 96), none, (.p (.pick (.tmp 84) (.tmp 95) (.c (.bool false)))), 35, []⟩,
⟨(some 97), none, (.p (.mv (.tmp 96))), 36, []⟩,
⟨(some 98), (some (97, true)), (.p (.mv (.tmp 0))), 37, []⟩,
⟨(some 99), (some (97, true)), (.p (.nilchk (.tmp 98))), 38, []⟩,
⟨(some 100), (some (97, true)), (.p (.fieldAt 3 (.tmp 99))), 39, []⟩,
⟨(some 101), (some (97, true)), (.r (.load 1 false (.tmp 100))), 40, []⟩,
⟨(some 102), (some (97, true)), (.p (.bin .eql (.tmp 101) (.c (.int .i64 0)))), 41, []⟩,
⟨(some 103), none, (.p (.pick (.tmp 97) (.tmp 102) (.c (.bool false)))), 42, []⟩])
(.cond (.tmp 103)
(.seq
(.ops [⟨(some 104), none, (.p (.mv (.tmp 0))), 0, []⟩,
⟨(some 105), none, (.p (.nilchk (.tmp 104))), 0, []⟩,
⟨(some 106), none, (.p (.fieldAt 1 (.tmp 105))), 0, []⟩,
⟨(some 107), none, (.r (.load 1 false (.tmp 106))), 0, []⟩,
⟨(some 108), none, (.p (.bin .add (.tmp 107) (.c (.int .i64 2)))), 0, []⟩,
⟨(some 109), none, (.p (.nilchk (.tmp 104))), 0, []⟩,
⟨(some 110), none, (.p (.fieldAt 1 (.tmp 109))), 0, []⟩,
⟨none, none, (.h (.store 1 (.tmp 110) (.tmp 108))), 0, []⟩])
(.seq
(.seq
(.draw [⟨(some 111), none, (.p (.mv (.tmp 0))), 0, []⟩,
⟨(some 112), none, (.p (.nilchk (.tmp 111))), 1, []⟩,
⟨(some 113), none, (.p (.fieldAt 0 (.tmp 112))), 2, []⟩,
⟨(some 114), none, (.r (.load 1 false (.tmp 113))), 3, []⟩,
⟨(some 115), none, (.p (.mv (.tmp 0))), 4, []⟩,
⟨(some 116), none, (.p (.nilchk (.tmp 115))), 5, []⟩,
⟨(some 117), none, (.p (.fieldAt 1 (.tmp 116))), 6, []⟩,
⟨(some 118), none, (.r (.load 1 false (.tmp 117))), 7, []⟩,
⟨(some 119), none, (.p (.bin .sub (.tmp 118) (.c (.int .i64 1)))), 8, []⟩,
⟨(some 120), none, (.p (.idxStr (.tmp 114) (.tmp 119))), 9, []⟩,
⟨(some 11), none, (.p (.mv (.tmp 120))), 10, []⟩])
(.seq
(.ops [⟨(some 121), none, (.p (.mv (.tmp 11))), 0, []⟩,
⟨(some 122), none, (.p (.bin .eql (.tmp 121) (.c (.int .u8 92)))), 0, []⟩])
(.cond (.tmp 122)
(.ops [⟨(some 123), none, (.p (.mv (.tmp 0))), 0, []⟩,
⟨(some 124), none, (.h (.call (.c (.fn 139 [] [])) [(.tmp 123)])), 0, []⟩,
⟨(some 11), none, (.p (.mv (.tmp 124))), 0, []⟩])
.skip)))
(.seq
(.ops [⟨(some 125), none, (.p (.mv (.tmp 11))), 0, []⟩,
⟨(some 126), none, (.p (.mv (.tmp 9))), 0, []⟩,
⟨(some 127), none, (.p (.bin .lss (.tmp 125) (.tmp 126))), 0, []⟩])
(.cond (.tmp 127)
(.ops [⟨(some 128), none, (.p (.mv (.tmp 0))), 0, []⟩,
⟨(some 129), none, (.p (.mv (.tmp 3))), 0, []⟩,
⟨(some 130), none, (.h (.call (.c (.fn 135 [] [])) [(.tmp 128), (.tmp 129), (.c (.int .i64 9))])), 0, []⟩])
.skip))))
.skip))
(.seq
(.ops [⟨(some 131), none, (.p (.mv (.tmp 9))), 0, []⟩,
⟨(some 132), none, (.p (.convInt .i64 (.tmp 131))), 0, []⟩,
⟨(some 12), none, (.p (.mv (.tmp 132))), 0, []⟩])
(.block 2 (.loop (.seq
(.seq
(.ops [⟨(some 133), none, (.p (.mv (.tmp 12))), 0, []⟩,
⟨(some 134), none, (.p (.mv (.tmp 11))), 0, []⟩,
⟨(some 135), none, (.p (.convInt .i64 (.tmp 134))), 0, []⟩,
⟨(some 136), none, (.p (.bin .leq (.tmp 133) (.tmp 135))), 0, []⟩])
(.cond (.tmp 136)
.skip
(.exit 2)))
(.seq
(.block 3 (.ops [⟨(some 139), none, (.r (.load 4 true (.tmp 4))), 0, []⟩,
⟨(some 140), none, (.p (.mv (.tmp 12))), 0, []⟩,
⟨(some 141), none, (.p (.convInt .u8 (.tmp 140))), 0, []⟩,
⟨(some 142), none, (.h (.call (.c (.fn 140 [] [])) [(.tmp 139), (.tmp 141)])), 0, []⟩,
⟨none, none, (.h (.store 4 (.tmp 4) (.tmp 142))), 0, []⟩]))
(.ops [⟨(some 137), none, (.p (.mv (.tmp 12))), 0, []⟩,
⟨(some 138), none, (.p (.bin .add (.tmp 137) (.c (.int .i64 1)))), 0, []⟩,
⟨(some 12), none, (.p (.mv (.tmp 138))), 0, []⟩]))))))))))))))
(.ops [⟨(some 8), none, (.p (.mv (.c (.bool false)))), 0, []⟩])))))
(.seq
(.seq
(.ops [⟨(some 143), none, (.p (.mv (.tmp 7))), 0, []⟩])
(.cond (.tmp 143)
(.ops [⟨(some 144), none, (.r (.load 4 true (.tmp 4))), 0, []⟩,
⟨(some 145), none, (.h (.call (.c (.fn 138 [] [])) [(.tmp 144)])), 0, []⟩,
⟨none, none, (.h (.store 4 (.tmp 4) (.tmp 145))), 0, []⟩])
.skip))
(.seq
(.ops [⟨(some 146), none, (.r (.load 4 true (.tmp 4))), 0, []⟩,
⟨none, none, (.h (.store 4 (.tmp 2) (.tmp 146))), 0, []⟩])
.ret)))))))))⟩
theorem c137 : Mir.compF Tryz.prog Tryz.f137 = some g137 := by kernel_rfl
/-- (scribe/regex.Set).Not -/
def g138 : Mir.Fn := ⟨16, [(.cell 2 4 true)],
(.seq
(.ops [⟨(some 1), none, (.a (.box (.tmp 0))), 0, []⟩,
⟨(some 2), none, (.a (.alloc [(.int .u64 0), (.int .u64 0), (.int .u64 0), (.int .u64 0)])), 0, []⟩])
(.seq
(.ops [⟨(some 3), none, (.p (.idxArr 4 1 (.tmp 1) (.c (.int .i64 0)))), 0, []⟩,
⟨(some 4), none, (.r (.load 1 false (.tmp 3))), 0, []⟩,
⟨(some 5), none, (.p (.un .xor (.tmp 4))), 0, []⟩,
⟨(some 6), none, (.p (.idxArr 4 1 (.tmp 1) (.c (.int .i64 1)))), 0, []⟩,
⟨(some 7), none, (.r (.load 1 false (.tmp 6))), 0, []⟩,
⟨(some 8), none, (.p (.un .xor (.tmp 7))), 0, []⟩,
⟨(some 9), none, (.p (.idxArr 4 1 (.tmp 1) (.c (.int .i64 2)))), 0, []⟩,
⟨(some 10), none, (.r (.load 1 false (.tmp 9))), 0, []⟩,
⟨(some 11), none, (.p (.un .xor (.tmp 10))), 0, []⟩,
⟨(some 12), none, (.p (.idxArr 4 1 (.tmp 1) (.c (.int .i64 3)))), 0, []⟩,
⟨(some 13), none, (.r (.load 1 false (.tmp 12))), 0, []⟩,
⟨(some 14), none, (.p (.un .xor (.tmp 13))), 0, []⟩,
⟨(some 15), none, (.p (.build [(.int .u64 0), (.int .u64 0), (.int .u64 0), (.int .u64 0)] [(0, (1, (.tmp 5))), (1, (1, (.tmp 8))), (2, (1, (.tmp 11))), (3, (1, (.tmp 14)))])), 0, []⟩,
⟨none, none, (.h (.store 4 (.tmp 2) (.tmp 15))), 0, []⟩])
.ret))⟩
theorem c138 : Mir.compF Tryz.prog Tryz.f138 = some g138 := by kernel_rfl
/-- (*scribe/regex.reader).escape -/
def g139 : Mir.Fn := ⟨62, [(.tmp 2)],
(.seq
(.ops [⟨(some 2), none, (.p (.mv (.c (.int .u8 0)))), 0, []⟩])
(.seq
(.ops [⟨(some 6), none, (.p (.mv (.tmp 0))), 0, []⟩,
⟨(some 7), none, (.p (.nilchk (.tmp 6))), 0, []⟩,
⟨(some 8), none, (.p (.fieldAt 1 (.tmp 7))), 0, []⟩,
⟨(some 9), none, (.r (.load 1 false (.tmp 8))), 0, []⟩,
⟨(some 10), none, (.p (.bin .sub (.tmp 9) (.c (.int .i64 1)))), 0, []⟩,
⟨(some 3), none, (.p (.mv (.tmp 10))), 0, []⟩])
(.seq
(.ops [⟨(some 12), none, (.p (.mv (.tmp 0))), 0, []⟩,
⟨(some 13), none, (.h (.call (.c (.fn 134 [] [])) [(.tmp 12)])), 0, []⟩,
⟨(some 11), none, (.p (.mv (.tmp 13))), 0, []⟩,
⟨(some 14), none, (.p (.ext (.tmp 11) 0)), 0, []⟩,
⟨(some 15), none, (.p (.ext (.tmp 11) 1)), 0, []⟩,
⟨(some 4), none, (.p (.mv (.tmp 14))), 0, []⟩,
⟨(some 5), none, (.p (.mv (.tmp 15))), 0, []⟩])
(.seq
(.ops [⟨(some 16), none, (.p (.mv (.tmp 0))), 0, []⟩,
⟨(some 17), none, (.p (.nilchk (.tmp 16))), 0, []⟩,
⟨(some 18), none, (.p (.fieldAt 1 (.tmp 17))), 0, []⟩,
⟨(some 19), none, (.r (.load 1 false (.tmp 18))), 0, []⟩,
⟨(some 20), none, (.p (.bin .add (.tmp 19) (.c (.int .i64 1)))), 0, []⟩,
⟨(some 21), none, (.p (.nilchk (.tmp 16))), 0, []⟩,
⟨(some 22), none, (.p (.fieldAt 1 (.tmp 21))), 0, []⟩,
⟨none, none, (.h (.store 1 (.tmp 22) (.tmp 20))), 0, []⟩])
(.seq
(.block 0 (.seq
(.ops [⟨(some 24), none, (.p (.mv (.tmp 5))), 0, []⟩,
⟨(some 25), none, (.p (.un .not (.tmp 24))), 0, []⟩,
⟨(some 23), none, (.p (.mv (.tmp 25))), 0, []⟩])
(.cond (.tmp 23)
(.ops [⟨(some 26), none, (.p (.mv (.tmp 0))), 0, []⟩,
⟨(some 27), none, (.p (.mv (.tmp 3))), 0, []⟩,
⟨(some 28), none, (.h (.call (.c (.fn 135 [] [])) [(.tmp 26), (.tmp 27), (.c (.int .i64 9))])), 0, []⟩])
(.seq
(.ops [⟨(some 30), none, (.p (.mv (.tmp 4))), 0, []⟩,
⟨(some 31), none, (.p (.bin .eql (.tmp 30) (.c (.int .u8 110)))), 0, []⟩,
⟨(some 29), none, (.p (.mv (.tmp 31))), 0, []⟩])
(.cond (.tmp 29)
(.seq
(.ops [⟨(some 2), none, (.p (.mv (.c (.int .u8 10)))), 0, []⟩])
.ret)
(.seq
(.ops [⟨(some 33), none, (.p (.mv (.tmp 4))), 0, []⟩,
⟨(some 34), none, (.p (.bin .eql (.tmp 33) (.c (.int .u8 116)))), 0, []⟩,
⟨(some 32), none, (.p (.mv (.tmp 34))), 0, []⟩])
(.cond (.tmp 32)
(.seq
(.ops [⟨(some 2), none, (.p (.mv (.c (.int .u8 9)))), 0, []⟩])
.ret)
(.seq
(.seq
(.ops [⟨(some 36), none, (.p (.mv (.tmp 4))), 0, []⟩,
⟨(some 37), none, (.p (.bin .geq (.tmp 36) (.c (.int .u8 48)))), 0, []⟩,
⟨(some 38), none, (.p (.mv (.tmp 37))), 0, []⟩,
⟨(some 39), (some (38, true)), (.p (.mv (.tmp 4))), 0, []⟩,
⟨(some 40), (some (38, true)), (.p (.bin .leq (.tmp 39) (.c (.int .u8 57)))), 0, []⟩,
⟨(some 41), none, (.p (.pick (.tmp 38) (.tmp 40) (.c (.bool false)))), 0, []⟩,
⟨(some 35), none, (.p (.mv (.tmp 41))), 0, []⟩])
(.cond (.tmp 35)
.skip
(.seq
(.ops [⟨(some 42), none, (.p (.mv (.tmp 4))), 0, []⟩,
⟨(some 43), none, (.p (.bin .geq (.tmp 42) (.c (.int .u8 97)))), 0, []⟩,
⟨(some 44), none, (.p (.mv (.tmp 43))), 0, []⟩,
⟨(some 45), (some (44, true)), (.p (.mv (.tmp 4))), 0, []⟩,
⟨(some 46), (some (44, true)), (.p (.bin .leq (.tmp 45) (.c (.int .u8 122)))), 0, []⟩,
⟨(some 47), none, (.p (.pick (.tmp 44) (.tmp 46) (.c (.bool false)))), 0, []⟩,
⟨(some 35), none, (.p (.mv (.tmp 47))), 0, []⟩])
(.cond (.tmp 35)
.skip
(.seq
(.ops [⟨(some 48), none, (.p (.mv (.tmp 4))), 0, []⟩,
⟨(some 49), none, (.p (.bin .geq (.tmp 48) (.c (.int .u8 65)))), 0, []⟩,
⟨(some 50), none, (.p (.mv (.tmp 49))), 0, []⟩,
⟨(some 51), (some (50, true)), (.p (.mv (.tmp 4))), 0, []⟩,
⟨(some 52), (some (50, true)), (.p (.bin .leq (.tmp 51) (.c (.int .u8 90)))), 0, []⟩,
⟨(some 53), none, (.p (.pick (.tmp 50) (.tmp 52) (.c (.bool false)))), 0, []⟩,
⟨(some 35), none, (.p (.mv (.tmp 53))), 0, []⟩])
(.cond (.tmp 35)
.skip
(.seq
(.ops [⟨(some 54), none, (.p (.mv (.tmp 4))), 0, []⟩,
⟨(some 55), none, (.p (.bin .lss (.tmp 54) (.c (.int .u8 32)))), 0, []⟩,
⟨(some 35), none, (.p (.mv (.tmp 55))), 0, []⟩])
(.cond (.tmp 35)
.skip
(.ops [⟨(some 56), none, (.p (.mv (.tmp 4))), 0, []⟩,
⟨(some 57), none, (.p (.bin .gtr (.tmp 56) (.c (.int .u8 126)))), 0, []⟩,
⟨(some 35), none, (.p (.mv (.tmp 57))), 0, []⟩])))))))))
(.cond (.tmp 35)
(.ops [⟨(some 58), none, (.p (.mv (.tmp 0))), 0, []⟩,
⟨(some 59), none, (.p (.mv (.tmp 3))), 0, []⟩,
⟨(some 60), none, (.h (.call (.c (.fn 135 [] [])) [(.tmp 58), (.tmp 59), (.c (.int .i64 9))])), 0, []⟩])
.skip)))))))))
(.seq
(.ops [⟨(some 61), none, (.p (.mv (.tmp 4))), 0, []⟩,
⟨(some 2), none, (.p (.mv (.tmp 61))), 0, []⟩])
.ret))))))⟩
theorem c139 : Mir.compF Tryz.prog Tryz.f139 = some g139 := by kernel_rfl
/-- (scribe/regex.Set).With -/
def g140 : Mir.Fn := ⟨15, [(.cell 4 4 true)],
(.seq
(.ops [⟨(some 2), none, (.a (.box (.tmp 0))), 0, []⟩,
⟨(some 4), none, (.a (.alloc [(.int .u64 0), (.int .u64 0), (.int .u64 0), (.int .u64 0)])), 0, []⟩])
(.seq
(.ops [⟨(some 5), none, (.p (.mv (.tmp 1))), 0, []⟩,
⟨(some 6), none, (.p (.bin .shr (.tmp 5) (.c (.int .u64 6)))), 0, []⟩,
⟨(some 7), none, (.p (.idxArr 4 1 (.tmp 2) (.tmp 6))), 0, []⟩,
⟨(some 8), none, (.r (.load 1 false (.tmp 7))), 0, []⟩,
⟨(some 9), none, (.p (.mv (.tmp 1))), 0, []⟩,
⟨(some 10), none, (.p (.bin .and (.tmp 9) (.c (.int .u8 63)))), 0, []⟩,
⟨(some 11), none, (.p (.bin .shl (.c (.int .u64 1)) (.tmp 10))), 0, []⟩,
⟨(some 12), none, (.p (.bin .or (.tmp 8) (.tmp 11))), 0, []⟩,
⟨(some 13), none, (.p (.idxArr 4 1 (.tmp 2) (.tmp 6))), 0, []⟩,
⟨none, none, (.h (.store 1 (.tmp 13) (.tmp 12))), 0, []⟩])
(.seq
(.ops [⟨(some 14), none, (.r (.load 4 true (.tmp 2))), 0, []⟩,
⟨none, none, (.h (.store 4 (.tmp 4) (.tmp 14))), 0, []⟩])
.ret)))⟩
theorem c140 : Mir.compF Tryz.prog Tryz.f140 = some g140 := by kernel_rfl
end Go.Proofs.YtkfbldogmgofoaaGreatDoor
