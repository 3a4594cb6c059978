/- The mirror's code of the seat's functions; printed by KPrint. -/
import Derived.Test.YtipnnfmgecbefaaGreatDoorMir21
import Derived.Test.YtipnnfmgecbefaaGreatDoorRows
namespace Go.Proofs.YtipnnfmgecbefaaGreatDoor
/-- scribe/scribelaw15.CodeNames -/
def g5 : Mir.Fn := ⟨25, [(.tmp 2)],
(.seq
(.ops [⟨(some 2), none, (.p (.mv (.c (.bool false)))), 0, []⟩])
(.seq
(.ops [⟨(some 5), none, (.h (.call (.c (.fn 12 [] [])) [])), 0, []⟩,
⟨(some 3), none, (.p (.mv (.tmp 5))), 0, []⟩])
(.seq
(.ops [⟨(some 4), none, (.p (.mv (.c (.str [])))), 0, []⟩])
(.seq
(.seq
(.ops [⟨(some 6), none, (.p (.mv (.tmp 0))), 0, []⟩,
⟨(some 7), none, (.p (.bin .geq (.tmp 6) (.c (.int .i64 0)))), 0, []⟩,
⟨(some 8), none, (.p (.mv (.tmp 7))), 0, []⟩,
⟨(some 9), (some (8, true)), (.p (.mv (.tmp 0))), 0, []⟩,
⟨(some 10), (some (8, true)), (.p (.mv (.tmp 3))), 0, []⟩,
⟨(some 11), (some (8, true)), (.p (.lenSl (.tmp 10))), 0, []⟩,
⟨(some 12), (some (8, true)), (.p (.bin .lss (.tmp 9) (.tmp 11))), 0, []⟩,
⟨(some 13), none, (.p (.pick (.tmp 8) (.tmp 12) (.c (.bool false)))), 0, []⟩])
(.cond (.tmp 13)
(.ops [⟨(some 14), none, (.p (.mv (.tmp 3))), 0, []⟩,
⟨(some 15), none, (.p (.mv (.tmp 0))), 0, []⟩,
⟨(some 16), none, (.p (.idxSl 1 (.tmp 14) (.tmp 15))), 0, []⟩,
⟨(some 17), none, (.r (.load 1 false (.tmp 16))), 0, []⟩,
⟨(some 4), none, (.p (.mv (.tmp 17))), 0, []⟩])
.skip))
(.seq
(.ops [⟨(some 18), none, (.h (.call (.c (.fn 9 [] [])) [])), 0, []⟩,
⟨(some 19), none, (.p (.mv (.tmp 18))), 0, []⟩,
⟨(some 20), (some (19, true)), (.p (.mv (.tmp 0))), 0, []⟩,
⟨(some 21), (some (19, true)), (.h (.call (.c (.fn 13 [] [])) [(.tmp 20)])), 0, []⟩,
⟨(some 22), (some (19, true)), (.p (.mv (.tmp 4))), 0, []⟩,
⟨(some 23), (some (19, true)), (.p (.bin .eql (.tmp 21) (.tmp 22))), 0, []⟩,
⟨(some 24), none, (.p (.pick (.tmp 19) (.tmp 23) (.c (.bool false)))), 0, []⟩,
⟨(some 2), none, (.p (.mv (.tmp 24))), 0, []⟩])
.ret)))))⟩
theorem c5 : Mir.compF Tryz.prog Tryz.f5 = some g5 := by kernel_rfl
/-- scribe/code.Compile -/
def g7 : Mir.Fn := ⟨201, [(.tmp 2), (.tmp 3), (.tmp 4)],
(.seq
(.ops [⟨(some 2), none, (.p (.mv (.c .nilptr))), 0, []⟩,
⟨(some 3), none, (.p (.mv (.c (.int .i64 0)))), 0, []⟩,
⟨(some 4), none, (.p (.mv (.c (.int .i64 0)))), 0, []⟩])
(.seq
(.ops [⟨(some 15), none, (.p (.mv (.tmp 0))), 0, []⟩,
⟨(some 16), none, (.h (.call (.c (.fn 17 [] [])) [(.tmp 15)])), 0, []⟩,
⟨(some 14), none, (.p (.mv (.tmp 16))), 0, []⟩,
⟨(some 17), none, (.p (.ext (.tmp 14) 0)), 0, []⟩,
⟨(some 18), none, (.p (.ext (.tmp 14) 1)), 0, []⟩,
⟨(some 19), none, (.p (.ext (.tmp 14) 2)), 0, []⟩,
⟨(some 5), none, (.a (.alloc [(.str []), (.str []), (.int .i64 0), .nilsl])), 0, []⟩,
⟨none, none, (.h (.store 4 (.tmp 5) (.tmp 17))), 0, []⟩,
⟨(some 6), none, (.p (.mv (.tmp 18))), 0, []⟩,
⟨(some 7), none, (.p (.mv (.tmp 19))), 0, []⟩])
(.seq
(.seq
(.ops [⟨(some 20), none, (.p (.mv (.tmp 7))), 0, []⟩,
⟨(some 21), none, (.p (.bin .neq (.tmp 20) (.c (.int .i64 0)))), 0, []⟩])
(.cond (.tmp 21)
(.seq
(.ops [⟨(some 22), none, (.p (.mv (.tmp 6))), 0, []⟩,
⟨(some 23), none, (.p (.mv (.tmp 7))), 0, []⟩,
⟨(some 2), none, (.p (.mv (.c .nilptr))), 0, []⟩,
⟨(some 3), none, (.p (.mv (.tmp 22))), 0, []⟩,
⟨(some 4), none, (.p (.mv (.tmp 23))), 0, []⟩])
.ret)
.skip))
(.seq
(.ops [⟨(some 25), none, (.r (.load 4 true (.tmp 5))), 0, []⟩,
⟨(some 26), none, (.h (.call (.c (.fn 18 [] [])) [(.tmp 25)])), 0, []⟩,
⟨(some 24), none, (.p (.mv (.tmp 26))), 0, []⟩,
⟨(some 27), none, (.p (.ext (.tmp 24) 0)), 0, []⟩,
⟨(some 28), none, (.p (.ext (.tmp 24) 1)), 0, []⟩,
⟨(some 29), none, (.p (.ext (.tmp 24) 2)), 0, []⟩,
⟨(some 8), none, (.p (.mv (.tmp 27))), 0, []⟩,
⟨(some 6), none, (.p (.mv (.tmp 28))), 0, []⟩,
⟨(some 7), none, (.p (.mv (.tmp 29))), 0, []⟩])
(.seq
(.seq
(.ops [⟨(some 30), none, (.p (.mv (.tmp 7))), 0, []⟩,
⟨(some 31), none, (.p (.bin .neq (.tmp 30) (.c (.int .i64 0)))), 0, []⟩])
(.cond (.tmp 31)
(.seq
(.ops [⟨(some 32), none, (.p (.mv (.tmp 6))), 0, []⟩,
⟨(some 33), none, (.p (.mv (.tmp 7))), 0, []⟩,
⟨(some 2), none, (.p (.mv (.c .nilptr))), 0, []⟩,
⟨(some 3), none, (.p (.mv (.tmp 32))), 0, []⟩,
⟨(some 4), none, (.p (.mv (.tmp 33))), 0, []⟩])
.ret)
.skip))
(.seq
(.ops [⟨(some 34), none, (.p (.build [.nilsl, .nilsl, .nilsl, .nilsl, .nilsl, .nilsl, (.int .i64 0), (.int .i64 0), (.int .i64 0)] [])), 0, []⟩,
⟨(some 35), none, (.a (.box (.tmp 34))), 0, []⟩,
⟨(some 36), none, (.p (.mv (.tmp 8))), 0, []⟩,
⟨(some 37), none, (.p (.build [.nilptr, .nilptr, (.int .i64 0), .nilsl] [(0, (1, (.tmp 35))), (1, (1, (.tmp 36))), (2, (1, (.c (.int .i64 (-1)))))])), 0, []⟩,
⟨(some 38), none, (.a (.box (.tmp 37))), 0, []⟩,
⟨(some 9), none, (.p (.mv (.tmp 38))), 0, []⟩])
(.seq
(.draw [⟨(some 39), none, (.p (.mv (.tmp 9))), 0, []⟩,
⟨(some 40), none, (.p (.nilchk (.tmp 39))), 1, []⟩,
⟨(some 41), none, (.p (.fieldAt 0 (.tmp 40))), 2, []⟩,
⟨(some 42), none, (.r (.load 1 false (.tmp 41))), 3, []⟩,
⟨(some 43), none, (.p (.mv (.tmp 9))), 4, []⟩,
⟨(some 44), none, (.p (.nilchk (.tmp 43))), 5, []⟩,
⟨(some 45), none, (.p (.fieldAt 0 (.tmp 44))), 6, []⟩,
⟨(some 46), none, (.r (.load 1 false (.tmp 45))), 7, []⟩,
⟨(some 47), none, (.p (.nilchk (.tmp 46))), 8, []⟩,
⟨(some 48), none, (.p (.fieldAt 4 (.tmp 47))), 9, []⟩,
⟨(some 49), none, (.r (.load 1 false (.tmp 48))), 10, []⟩,
⟨(some 50), none, (.r (.load 1 false (.glob 0))), 11, []⟩,
⟨(some 51), none, (.h (.app 1 16 (.tmp 49) (.tmp 50))), 12, [3]⟩,
⟨(some 52), none, (.p (.nilchk (.tmp 42))), 13, []⟩,
⟨(some 53), none, (.p (.fieldAt 4 (.tmp 52))), 14, []⟩,
⟨none, none, (.h (.store 1 (.tmp 53) (.tmp 51))), 15, []⟩])
(.seq
(.draw [⟨(some 54), none, (.p (.mv (.tmp 9))), 0, []⟩,
⟨(some 55), none, (.p (.nilchk (.tmp 54))), 1, []⟩,
⟨(some 56), none, (.p (.fieldAt 0 (.tmp 55))), 2, []⟩,
⟨(some 57), none, (.r (.load 1 false (.tmp 56))), 3, []⟩,
⟨(some 58), none, (.r (.load 1 false (.glob 0))), 4, []⟩,
⟨(some 59), none, (.p (.lenSl (.tmp 58))), 5, []⟩,
⟨(some 60), none, (.a (.make [(.bool false)] 1 2 (.tmp 59) (.tmp 59))), 6, []⟩,
⟨(some 61), none, (.p (.nilchk (.tmp 57))), 7, []⟩,
⟨(some 62), none, (.p (.fieldAt 5 (.tmp 61))), 8, []⟩,
⟨none, none, (.h (.store 1 (.tmp 62) (.tmp 60))), 9, []⟩])
(.seq
(.seq
(.ops [⟨(some 63), none, (.p (.mv (.tmp 8))), 0, []⟩,
⟨(some 64), none, (.p (.nilchk (.tmp 63))), 0, []⟩,
⟨(some 65), none, (.p (.fieldAt 1 (.tmp 64))), 0, []⟩,
⟨(some 66), none, (.r (.load 1 false (.tmp 65))), 0, []⟩,
⟨(some 67), none, (.p (.lenSl (.tmp 66))), 0, []⟩,
⟨(some 68), none, (.p (.mv (.c (.int .i64 0)))), 0, []⟩])
(.block 0 (.loop (.seq
(.ops [⟨(some 69), none, (.p (.bin .lss (.tmp 68) (.tmp 67))), 0, []⟩])
(.seq
(.cond (.tmp 69)
.skip
(.exit 0))
(.seq
(.block 1 (.seq
(.ops [⟨(some 70), none, (.p (.mv (.tmp 68))), 0, []⟩,
⟨(some 71), none, (.p (.idxSl 1 (.tmp 66) (.tmp 68))), 0, []⟩,
⟨(some 72), none, (.r (.load 1 false (.tmp 71))), 0, []⟩,
⟨(some 10), none, (.p (.mv (.tmp 70))), 0, []⟩,
⟨(some 11), none, (.p (.mv (.tmp 72))), 0, []⟩])
(.seq
(.ops [⟨(some 73), none, (.r (.load 1 false (.glob 0))), 0, []⟩,
⟨(some 74), none, (.p (.mv (.tmp 11))), 0, []⟩,
⟨(some 75), none, (.h (.call (.c (.fn 19 [] [])) [(.tmp 73), (.tmp 74)])), 0, []⟩,
⟨(some 76), none, (.p (.bin .lss (.tmp 75) (.c (.int .i64 0)))), 0, []⟩])
(.cond (.tmp 76)
(.seq
(.draw [⟨(some 77), none, (.p (.mv (.tmp 9))), 0, []⟩,
⟨(some 78), none, (.p (.nilchk (.tmp 77))), 1, []⟩,
⟨(some 79), none, (.p (.fieldAt 0 (.tmp 78))), 2, []⟩,
⟨(some 80), none, (.r (.load 1 false (.tmp 79))), 3, []⟩,
⟨(some 81), none, (.p (.mv (.tmp 9))), 4, []⟩,
⟨(some 82), none, (.p (.nilchk (.tmp 81))), 5, []⟩,
⟨(some 83), none, (.p (.fieldAt 0 (.tmp 82))), 6, []⟩,
⟨(some 84), none, (.r (.load 1 false (.tmp 83))), 7, []⟩,
⟨(some 85), none, (.p (.nilchk (.tmp 84))), 8, []⟩,
⟨(some 86), none, (.p (.fieldAt 4 (.tmp 85))), 9, []⟩,
⟨(some 87), none, (.r (.load 1 false (.tmp 86))), 10, []⟩,
⟨(some 88), none, (.p (.mv (.tmp 11))), 11, []⟩,
⟨(some 89), none, (.a (.mkSl [(.str [])] 1 1 [(0, (1, (.tmp 88)))])), 12, []⟩,
⟨(some 90), none, (.h (.app 1 16 (.tmp 87) (.tmp 89))), 13, [3]⟩,
⟨(some 91), none, (.p (.nilchk (.tmp 80))), 14, []⟩,
⟨(some 92), none, (.p (.fieldAt 4 (.tmp 91))), 15, []⟩,
⟨none, none, (.h (.store 1 (.tmp 92) (.tmp 90))), 16, []⟩])
(.draw [⟨(some 93), none, (.p (.mv (.tmp 9))), 0, []⟩,
⟨(some 94), none, (.p (.nilchk (.tmp 93))), 1, []⟩,
⟨(some 95), none, (.p (.fieldAt 0 (.tmp 94))), 2, []⟩,
⟨(some 96), none, (.r (.load 1 false (.tmp 95))), 3, []⟩,
⟨(some 97), none, (.p (.mv (.tmp 9))), 4, []⟩,
⟨(some 98), none, (.p (.nilchk (.tmp 97))), 5, []⟩,
⟨(some 99), none, (.p (.fieldAt 0 (.tmp 98))), 6, []⟩,
⟨(some 100), none, (.r (.load 1 false (.tmp 99))), 7, []⟩,
⟨(some 101), none, (.p (.nilchk (.tmp 100))), 8, []⟩,
⟨(some 102), none, (.p (.fieldAt 5 (.tmp 101))), 9, []⟩,
⟨(some 103), none, (.r (.load 1 false (.tmp 102))), 10, []⟩,
⟨(some 104), none, (.p (.mv (.tmp 8))), 11, []⟩,
⟨(some 105), none, (.p (.nilchk (.tmp 104))), 12, []⟩,
⟨(some 106), none, (.p (.fieldAt 2 (.tmp 105))), 13, []⟩,
⟨(some 107), none, (.r (.load 1 false (.tmp 106))), 14, []⟩,
⟨(some 108), none, (.p (.mv (.tmp 10))), 15, []⟩,
⟨(some 109), none, (.p (.idxSl 1 (.tmp 107) (.tmp 108))), 16, []⟩,
⟨(some 110), none, (.r (.load 1 false (.tmp 109))), 17, []⟩,
⟨(some 111), none, (.a (.mkSl [(.bool false)] 1 1 [(0, (1, (.tmp 110)))])), 18, []⟩,
⟨(some 112), none, (.h (.app 1 2 (.tmp 103) (.tmp 111))), 19, [3]⟩,
⟨(some 113), none, (.p (.nilchk (.tmp 96))), 20, []⟩,
⟨(some 114), none, (.p (.fieldAt 5 (.tmp 113))), 21, []⟩,
⟨none, none, (.h (.store 1 (.tmp 114) (.tmp 112))), 22, []⟩]))
.skip))))
(.ops [⟨(some 115), none, (.p (.bin .add (.tmp 68) (.c (.int .i64 1)))), 0, []⟩,
⟨(some 68), none, (.p (.mv (.tmp 115))), 0, []⟩])))))))
(.seq
(.draw [⟨(some 116), none, (.p (.mv (.tmp 9))), 0, []⟩,
⟨(some 117), none, (.p (.nilchk (.tmp 116))), 1, []⟩,
⟨(some 118), none, (.p (.fieldAt 0 (.tmp 117))), 2, []⟩,
⟨(some 119), none, (.r (.load 1 false (.tmp 118))), 3, []⟩,
⟨(some 120), none, (.p (.mv (.tmp 9))), 4, []⟩,
⟨(some 121), none, (.p (.fieldAt 3 (.tmp 5))), 5, []⟩,
⟨(some 122), none, (.r (.load 1 false (.tmp 121))), 6, []⟩,
⟨(some 123), none, (.h (.call (.c (.fn 20 [] [])) [(.tmp 120), (.tmp 122), (.c (.str [98, 101, 103, 105, 110]))])), 7, [3]⟩,
⟨(some 124), none, (.p (.nilchk (.tmp 119))), 8, []⟩,
⟨(some 125), none, (.p (.fieldAt 6 (.tmp 124))), 9, []⟩,
⟨none, none, (.h (.store 1 (.tmp 125) (.tmp 123))), 10, []⟩])
(.seq
(.draw [⟨(some 126), none, (.p (.mv (.tmp 9))), 0, []⟩,
⟨(some 127), none, (.p (.nilchk (.tmp 126))), 1, []⟩,
⟨(some 128), none, (.p (.fieldAt 0 (.tmp 127))), 2, []⟩,
⟨(some 129), none, (.r (.load 1 false (.tmp 128))), 3, []⟩,
⟨(some 130), none, (.p (.mv (.tmp 9))), 4, []⟩,
⟨(some 131), none, (.p (.fieldAt 3 (.tmp 5))), 5, []⟩,
⟨(some 132), none, (.r (.load 1 false (.tmp 131))), 6, []⟩,
⟨(some 133), none, (.h (.call (.c (.fn 20 [] [])) [(.tmp 130), (.tmp 132), (.c (.str [114, 117, 108, 101]))])), 7, [3]⟩,
⟨(some 134), none, (.p (.nilchk (.tmp 129))), 8, []⟩,
⟨(some 135), none, (.p (.fieldAt 7 (.tmp 134))), 9, []⟩,
⟨none, none, (.h (.store 1 (.tmp 135) (.tmp 133))), 10, []⟩])
(.seq
(.draw [⟨(some 136), none, (.p (.mv (.tmp 9))), 0, []⟩,
⟨(some 137), none, (.p (.nilchk (.tmp 136))), 1, []⟩,
⟨(some 138), none, (.p (.fieldAt 0 (.tmp 137))), 2, []⟩,
⟨(some 139), none, (.r (.load 1 false (.tmp 138))), 3, []⟩,
⟨(some 140), none, (.p (.mv (.tmp 9))), 4, []⟩,
⟨(some 141), none, (.p (.fieldAt 3 (.tmp 5))), 5, []⟩,
⟨(some 142), none, (.r (.load 1 false (.tmp 141))), 6, []⟩,
⟨(some 143), none, (.h (.call (.c (.fn 20 [] [])) [(.tmp 140), (.tmp 142), (.c (.str [101, 110, 100]))])), 7, [3]⟩,
⟨(some 144), none, (.p (.nilchk (.tmp 139))), 8, []⟩,
⟨(some 145), none, (.p (.fieldAt 8 (.tmp 144))), 9, []⟩,
⟨none, none, (.h (.store 1 (.tmp 145) (.tmp 143))), 10, []⟩])
(.seq
(.seq
(.ops [⟨(some 146), none, (.p (.mv (.tmp 8))), 0, []⟩,
⟨(some 147), none, (.p (.nilchk (.tmp 146))), 0, []⟩,
⟨(some 148), none, (.p (.fieldAt 0 (.tmp 147))), 0, []⟩,
⟨(some 149), none, (.r (.load 1 false (.tmp 148))), 0, []⟩,
⟨(some 150), none, (.p (.lenSl (.tmp 149))), 0, []⟩,
⟨(some 151), none, (.p (.mv (.c (.int .i64 0)))), 0, []⟩])
(.block 2 (.loop (.seq
(.ops [⟨(some 152), none, (.p (.bin .lss (.tmp 151) (.tmp 150))), 0, []⟩])
(.seq
(.cond (.tmp 152)
.skip
(.exit 2))
(.seq
(.block 3 (.seq
(.ops [⟨(some 153), none, (.p (.mv (.tmp 151))), 0, []⟩,
⟨(some 154), none, (.p (.idxSl 7 (.tmp 149) (.tmp 151))), 0, []⟩,
⟨(some 155), none, (.r (.load 7 true (.tmp 154))), 0, []⟩,
⟨(some 13), none, (.a (.alloc [(.str []), .nilsl, .nilsl, (.str []), (.str []), (.int .i64 0), .nilsl])), 0, []⟩,
⟨(some 12), none, (.p (.mv (.tmp 153))), 0, []⟩,
⟨none, none, (.h (.store 7 (.tmp 13) (.tmp 155))), 0, []⟩])
(.seq
(.ops [⟨(some 156), none, (.p (.mv (.tmp 9))), 0, []⟩,
⟨(some 157), none, (.p (.mv (.tmp 12))), 0, []⟩,
⟨(some 158), none, (.p (.nilchk (.tmp 156))), 0, []⟩,
⟨(some 159), none, (.p (.fieldAt 2 (.tmp 158))), 0, []⟩,
⟨none, none, (.h (.store 1 (.tmp 159) (.tmp 157))), 0, []⟩])
(.seq
(.draw [⟨(some 160), none, (.p (.mv (.tmp 9))), 0, []⟩,
⟨(some 161), none, (.p (.nilchk (.tmp 160))), 1, []⟩,
⟨(some 162), none, (.p (.fieldAt 0 (.tmp 161))), 2, []⟩,
⟨(some 163), none, (.r (.load 1 false (.tmp 162))), 3, []⟩,
⟨(some 164), none, (.p (.mv (.tmp 9))), 4, []⟩,
⟨(some 165), none, (.p (.nilchk (.tmp 164))), 5, []⟩,
⟨(some 166), none, (.p (.fieldAt 0 (.tmp 165))), 6, []⟩,
⟨(some 167), none, (.r (.load 1 false (.tmp 166))), 7, []⟩,
⟨(some 168), none, (.p (.nilchk (.tmp 167))), 8, []⟩,
⟨(some 169), none, (.p (.fieldAt 3 (.tmp 168))), 9, []⟩,
⟨(some 170), none, (.r (.load 1 false (.tmp 169))), 10, []⟩,
⟨(some 171), none, (.p (.mv (.tmp 9))), 11, []⟩,
⟨(some 172), none, (.p (.nilchk (.tmp 171))), 12, []⟩,
⟨(some 173), none, (.p (.fieldAt 0 (.tmp 172))), 13, []⟩,
⟨(some 174), none, (.r (.load 1 false (.tmp 173))), 14, []⟩,
⟨(some 175), none, (.p (.nilchk (.tmp 174))), 15, []⟩,
⟨(some 176), none, (.p (.fieldAt 0 (.tmp 175))), 16, []⟩,
⟨(some 177), none, (.r (.load 1 false (.tmp 176))), 17, []⟩,
⟨(some 178), none, (.p (.lenSl (.tmp 177))), 18, []⟩,
⟨(some 179), none, (.a (.mkSl [(.bool false)] 1 0 [])), 19, []⟩,
⟨(some 180), none, (.p (.fieldAt 2 (.tmp 13))), 20, []⟩,
⟨(some 181), none, (.r (.load 1 false (.tmp 180))), 21, []⟩,
⟨(some 182), none, (.h (.app 1 2 (.tmp 179) (.tmp 181))), 22, [3, 7, 10, 14, 17]⟩,
⟨(some 183), none, (.p (.build [(.int .i64 0), .nilsl] [(0, (1, (.tmp 178))), (1, (1, (.tmp 182)))])), 23, []⟩,
⟨(some 184), none, (.a (.mkSl [(.int .i64 0), .nilsl] 2 1 [(0, (2, (.tmp 183)))])), 24, []⟩,
⟨(some 185), none, (.h (.app 2 32 (.tmp 170) (.tmp 184))), 25, [3]⟩,
⟨(some 186), none, (.p (.nilchk (.tmp 163))), 26, []⟩,
⟨(some 187), none, (.p (.fieldAt 3 (.tmp 186))), 27, []⟩,
⟨none, none, (.h (.store 1 (.tmp 187) (.tmp 185))), 28, []⟩])
(.seq
(.ops [⟨(some 188), none, (.p (.mv (.tmp 9))), 0, []⟩,
⟨(some 189), none, (.p (.fieldAt 3 (.tmp 13))), 0, []⟩,
⟨(some 190), none, (.r (.load 4 true (.tmp 189))), 0, []⟩,
⟨(some 191), none, (.h (.call (.c (.fn 21 [] [])) [(.tmp 188), (.tmp 190)])), 0, []⟩])
(.seq
(.ops [⟨(some 192), none, (.p (.mv (.tmp 9))), 0, []⟩,
⟨(some 193), none, (.h (.call (.c (.fn 22 [] [])) [(.tmp 192), (.c (.str []))])), 0, []⟩])
(.ops [⟨(some 194), none, (.p (.mv (.tmp 9))), 0, []⟩,
⟨(some 195), none, (.h (.call (.c (.fn 23 [] [])) [(.tmp 194), (.c (.int .i64 23)), (.c (.int .i64 0)), (.c (.int .i64 0))])), 0, []⟩])))))))
(.ops [⟨(some 196), none, (.p (.bin .add (.tmp 151) (.c (.int .i64 1)))), 0, []⟩,
⟨(some 151), none, (.p (.mv (.tmp 196))), 0, []⟩])))))))
(.seq
(.ops [⟨(some 197), none, (.p (.mv (.tmp 9))), 0, []⟩,
⟨(some 198), none, (.p (.nilchk (.tmp 197))), 0, []⟩,
⟨(some 199), none, (.p (.fieldAt 0 (.tmp 198))), 0, []⟩,
⟨(some 200), none, (.r (.load 1 false (.tmp 199))), 0, []⟩,
⟨(some 2), none, (.p (.mv (.tmp 200))), 0, []⟩,
⟨(some 3), none, (.p (.mv (.c (.int .i64 0)))), 0, []⟩,
⟨(some 4), none, (.p (.mv (.c (.int .i64 0)))), 0, []⟩])
.ret))))))))))))))⟩
theorem c7 : Mir.compF Tryz.prog Tryz.f7 = some g7 := by kernel_rfl
/-- scribe/scribelaw15.awake -/
def g9 : Mir.Fn := ⟨59, [(.tmp 0)],
(.seq
(.ops [⟨(some 0), none, (.p (.mv (.c (.bool false)))), 0, []⟩])
(.seq
(.ops [⟨(some 8), none, (.h (.call (.c (.fn 7 [] [])) [(.c (.str [66, 69, 71, 73, 78, 123, 120, 61, 49, 125]))])), 0, []⟩,
⟨(some 7), none, (.p (.mv (.tmp 8))), 0, []⟩,
⟨(some 9), none, (.p (.ext (.tmp 7) 0)), 0, []⟩,
⟨(some 10), none, (.p (.ext (.tmp 7) 1)), 0, []⟩,
⟨(some 11), none, (.p (.ext (.tmp 7) 2)), 0, []⟩,
⟨(some 1), none, (.p (.mv (.tmp 9))), 0, []⟩,
⟨(some 2), none, (.p (.mv (.tmp 10))), 0, []⟩,
⟨(some 3), none, (.p (.mv (.tmp 11))), 0, []⟩])
(.seq
(.ops [⟨(some 13), none, (.h (.call (.c (.fn 7 [] [])) [(.c (.str [66, 69, 71, 73, 78, 123, 120, 61, 125]))])), 0, []⟩,
⟨(some 12), none, (.p (.mv (.tmp 13))), 0, []⟩,
⟨(some 14), none, (.p (.ext (.tmp 12) 0)), 0, []⟩,
⟨(some 15), none, (.p (.ext (.tmp 12) 1)), 0, []⟩,
⟨(some 16), none, (.p (.ext (.tmp 12) 2)), 0, []⟩,
⟨(some 4), none, (.p (.mv (.tmp 14))), 0, []⟩,
⟨(some 5), none, (.p (.mv (.tmp 15))), 0, []⟩,
⟨(some 6), none, (.p (.mv (.tmp 16))), 0, []⟩])
(.seq
(.seq
(.ops [⟨(some 17), none, (.p (.mv (.tmp 3))), 0, []⟩,
⟨(some 18), none, (.p (.bin .neq (.tmp 17) (.c (.int .i64 0)))), 0, []⟩,
⟨(some 19), none, (.p (.mv (.tmp 18))), 0, []⟩,
⟨(some 20), (some (19, false)), (.p (.mv (.tmp 1))), 0, []⟩,
⟨(some 21), (some (19, false)), (.p (.eq .ptr false (.tmp 20) (.c .nilptr))), 0, []⟩,
⟨(some 22), none, (.p (.pick (.tmp 19) (.c (.bool true)) (.tmp 21))), 0, []⟩,
⟨(some 23), none, (.p (.mv (.tmp 22))), 0, []⟩,
⟨(some 24), (some (23, false)), (.p (.mv (.tmp 1))), 0, []⟩,
⟨(some 25), (some (23, false)), (.p (.nilchk (.tmp 24))), 0, []⟩,
⟨(some 26), (some (23, false)), (.p (.fieldAt 4 (.tmp 25))), 0, []⟩,
⟨(some 27), (some (23, false)), (.r (.load 1 false (.tmp 26))), 0, []⟩,
⟨(some 28), (some (23, false)), (.p (.lenSl (.tmp 27))), 0, []⟩,
⟨(some 29), (some (23, false)), (.p (.bin .neq (.tmp 28) (.c (.int .i64 9)))), 0, []⟩,
⟨(some 30), none, (.p (.pick (.tmp 23) (.c (.bool true)) (.tmp 29))), 0, []⟩,
⟨(some 31), none, (.p (.mv (.tmp 30))), 0, []⟩,
⟨(some 32), (some (31, false)), (.p (.mv (.tmp 1))), 0, []⟩,
⟨(some 33), (some (31, false)), (.p (.nilchk (.tmp 32))), 0, []⟩,
⟨(some 34), (some (31, false)), (.p (.fieldAt 4 (.tmp 33))), 0, []⟩,
⟨(some 35), (some (31, false)), (.r (.load 1 false (.tmp 34))), 0, []⟩,
⟨(some 36), (some (31, false)), (.p (.idxSl 1 (.tmp 35) (.c (.int .i64 8)))), 0, []⟩,
⟨(some 37), (some (31, false)), (.r (.load 1 false (.tmp 36))), 0, []⟩,
⟨(some 38), (some (31, false)), (.p (.bin .neq (.tmp 37) (.c (.str [120])))), 0, []⟩,
⟨(some 39), none, (.p (.pick (.tmp 31) (.c (.bool true)) (.tmp 38))), 0, []⟩,
⟨(some 40), none, (.p (.mv (.tmp 39))), 0, []⟩,
⟨(some 41), (some (40, false)), (.p (.mv (.tmp 1))), 0, []⟩,
⟨(some 42), (some (40, false)), (.h (.call (.c (.fn 10 [] [])) [(.tmp 41)])), 0, []⟩,
⟨(some 43), (some (40, false)), (.p (.bin .neq (.tmp 42) (.c (.int .i64 0)))), 0, []⟩,
⟨(some 44), none, (.p (.pick (.tmp 40) (.c (.bool true)) (.tmp 43))), 0, []⟩,
⟨(some 45), none, (.p (.mv (.tmp 44))), 0, []⟩,
⟨(some 46), (some (45, false)), (.p (.mv (.tmp 6))), 0, []⟩,
⟨(some 47), (some (45, false)), (.p (.bin .neq (.tmp 46) (.c (.int .i64 9)))), 0, []⟩,
⟨(some 48), none, (.p (.pick (.tmp 45) (.c (.bool true)) (.tmp 47))), 0, []⟩,
⟨(some 49), none, (.p (.mv (.tmp 48))), 0, []⟩,
⟨(some 50), (some (49, false)), (.p (.mv (.tmp 5))), 0, []⟩,
⟨(some 51), (some (49, false)), (.p (.bin .neq (.tmp 50) (.c (.int .i64 8)))), 0, []⟩,
⟨(some 52), none, (.p (.pick (.tmp 49) (.c (.bool true)) (.tmp 51))), 0, []⟩])
(.cond (.tmp 52)
(.seq
(.ops [⟨(some 0), none, (.p (.mv (.c (.bool false)))), 0, []⟩])
.ret)
.skip))
(.seq
(.ops [⟨(some 53), none, (.h (.call (.c (.fn 13 [] [])) [(.c (.int .i64 0))])), 0, []⟩,
⟨(some 54), none, (.p (.bin .eql (.tmp 53) (.c (.str [108, 101, 110, 103, 116, 104])))), 0, []⟩,
⟨(some 55), none, (.p (.mv (.tmp 54))), 0, []⟩,
⟨(some 56), (some (55, true)), (.h (.call (.c (.fn 13 [] [])) [(.c (.int .i64 11))])), 0, []⟩,
⟨(some 57), (some (55, true)), (.p (.bin .eql (.tmp 56) (.c (.str [])))), 0, []⟩,
⟨(some 58), none, (.p (.pick (.tmp 55) (.tmp 57) (.c (.bool false)))), 0, []⟩,
⟨(some 0), none, (.p (.mv (.tmp 58))), 0, []⟩])
.ret)))))⟩
theorem c9 : Mir.compF Tryz.prog Tryz.f9 = some g9 := by kernel_rfl
/-- scribe/code.Check -/
def g10 : Mir.Fn := ⟨11, [(.tmp 2)],
(.seq
(.ops [⟨(some 2), none, (.p (.mv (.c (.int .i64 0)))), 0, []⟩])
(.seq
(.ops [⟨(some 6), none, (.p (.mv (.tmp 0))), 0, []⟩,
⟨(some 7), none, (.h (.call (.c (.fn 24 [] [])) [(.tmp 6)])), 0, []⟩,
⟨(some 5), none, (.p (.mv (.tmp 7))), 0, []⟩,
⟨(some 8), none, (.p (.ext (.tmp 5) 0)), 0, []⟩,
⟨(some 9), none, (.p (.ext (.tmp 5) 1)), 0, []⟩,
⟨(some 3), none, (.p (.mv (.tmp 8))), 0, []⟩,
⟨(some 4), none, (.p (.mv (.tmp 9))), 0, []⟩])
(.seq
(.ops [⟨(some 10), none, (.p (.mv (.tmp 4))), 0, []⟩,
⟨(some 2), none, (.p (.mv (.tmp 10))), 0, []⟩])
.ret)))⟩
theorem c10 : Mir.compF Tryz.prog Tryz.f10 = some g10 := by kernel_rfl
/-- scribe/scriberef15.Builtins -/
def g12 : Mir.Fn := ⟨2, [(.tmp 0)],
(.seq
(.ops [⟨(some 0), none, (.p (.mv (.c .nilsl))), 0, []⟩])
(.seq
(.ops [⟨(some 1), none, (.a (.mkSl [(.str [])] 1 11 [(0, (1, (.c (.str [108, 101, 110, 103, 116, 104])))), (1, (1, (.c (.str [115, 117, 98, 115, 116, 114])))), (2, (1, (.c (.str [105, 110, 100, 101, 120])))), (3, (1, (.c (.str [115, 112, 108, 105, 116])))), (4, (1, (.c (.str [109, 97, 116, 99, 104])))), (5, (1, (.c (.str [116, 111, 108, 111, 119, 101, 114])))), (6, (1, (.c (.str [116, 111, 117, 112, 112, 101, 114])))), (7, (1, (.c (.str [105, 110, 116])))), (8, (1, (.c (.str [115, 112, 114, 105, 110, 116, 102])))), (9, (1, (.c (.str [114, 97, 110, 100])))), (10, (1, (.c (.str [115, 114, 97, 110, 100]))))])), 0, []⟩,
⟨(some 0), none, (.p (.mv (.tmp 1))), 0, []⟩])
.ret))⟩
theorem c12 : Mir.compF Tryz.prog Tryz.f12 = some g12 := by kernel_rfl
/-- scribe/code.Name -/
def g13 : Mir.Fn := ⟨15, [(.tmp 2)],
(.seq
(.ops [⟨(some 2), none, (.p (.mv (.c (.str [])))), 0, []⟩])
(.seq
(.seq
(.ops [⟨(some 3), none, (.p (.mv (.tmp 0))), 0, []⟩,
⟨(some 4), none, (.p (.bin .lss (.tmp 3) (.c (.int .i64 0)))), 0, []⟩,
⟨(some 5), none, (.p (.mv (.tmp 4))), 0, []⟩,
⟨(some 6), (some (5, false)), (.p (.mv (.tmp 0))), 0, []⟩,
⟨(some 7), (some (5, false)), (.r (.load 1 false (.glob 1))), 0, []⟩,
⟨(some 8), (some (5, false)), (.p (.lenSl (.tmp 7))), 0, []⟩,
⟨(some 9), (some (5, false)), (.p (.bin .geq (.tmp 6) (.tmp 8))), 0, []⟩,
⟨(some 10), none, (.p (.pick (.tmp 5) (.c (.bool true)) (.tmp 9))), 0, []⟩])
(.cond (.tmp 10)
(.seq
(.ops [⟨(some 2), none, (.p (.mv (.c (.str [])))), 0, []⟩])
.ret)
.skip))
(.seq
(.ops [⟨(some 11), none, (.r (.load 1 false (.glob 1))), 0, []⟩,
⟨(some 12), none, (.p (.mv (.tmp 0))), 0, []⟩,
⟨(some 13), none, (.p (.idxSl 1 (.tmp 11) (.tmp 12))), 0, []⟩,
⟨(some 14), none, (.r (.load 1 false (.tmp 13))), 0, []⟩,
⟨(some 2), none, (.p (.mv (.tmp 14))), 0, []⟩])
.ret)))⟩
theorem c13 : Mir.compF Tryz.prog Tryz.f13 = some g13 := by kernel_rfl
/-- scribe/parse.Parse -/
def g17 : Mir.Fn := ⟨67, [(.cell 2 4 true), (.tmp 3), (.tmp 4)],
(.seq
(.ops [⟨(some 2), none, (.a (.alloc [(.str []), (.str []), (.int .i64 0), .nilsl])), 0, []⟩,
⟨(some 3), none, (.p (.mv (.c (.int .i64 0)))), 0, []⟩,
⟨(some 4), none, (.p (.mv (.c (.int .i64 0)))), 0, []⟩])
(.seq
(.ops [⟨(some 11), none, (.p (.mv (.tmp 0))), 0, []⟩,
⟨(some 12), none, (.h (.call (.c (.fn 27 [] [])) [(.tmp 11)])), 0, []⟩,
⟨(some 10), none, (.p (.mv (.tmp 12))), 0, []⟩,
⟨(some 13), none, (.p (.ext (.tmp 10) 0)), 0, []⟩,
⟨(some 14), none, (.p (.ext (.tmp 10) 1)), 0, []⟩,
⟨(some 15), none, (.p (.ext (.tmp 10) 2)), 0, []⟩,
⟨(some 5), none, (.p (.mv (.tmp 13))), 0, []⟩,
⟨(some 6), none, (.p (.mv (.tmp 14))), 0, []⟩,
⟨(some 7), none, (.p (.mv (.tmp 15))), 0, []⟩])
(.seq
(.seq
(.ops [⟨(some 16), none, (.p (.mv (.tmp 7))), 0, []⟩,
⟨(some 17), none, (.p (.bin .neq (.tmp 16) (.c (.int .i64 0)))), 0, []⟩])
(.cond (.tmp 17)
(.seq
(.ops [⟨(some 18), none, (.p (.build [(.str []), (.str []), (.int .i64 0), .nilsl] [])), 0, []⟩,
⟨(some 19), none, (.p (.mv (.tmp 6))), 0, []⟩,
⟨(some 20), none, (.p (.mv (.tmp 7))), 0, []⟩,
⟨none, none, (.h (.store 4 (.tmp 2) (.tmp 18))), 0, []⟩,
⟨(some 3), none, (.p (.mv (.tmp 19))), 0, []⟩,
⟨(some 4), none, (.p (.mv (.tmp 20))), 0, []⟩])
.ret)
.skip))
(.seq
(.ops [⟨(some 21), none, (.p (.mv (.tmp 5))), 0, []⟩,
⟨(some 22), none, (.p (.build [.nilsl, (.int .i64 0), (.int .i64 0), (.bool false), (.int .i64 0), (.int .i64 0)] [(0, (1, (.tmp 21)))])), 0, []⟩,
⟨(some 23), none, (.a (.box (.tmp 22))), 0, []⟩,
⟨(some 8), none, (.p (.mv (.tmp 23))), 0, []⟩])
(.seq
(.ops [⟨(some 24), none, (.h (.call (.c (.fn 28 [] [])) [(.c (.str [112, 114, 111, 103, 114, 97, 109])), (.c .nilsl)])), 0, []⟩,
⟨(some 9), none, (.a (.alloc [(.str []), (.str []), (.int .i64 0), .nilsl])), 0, []⟩,
⟨none, none, (.h (.store 4 (.tmp 9) (.tmp 24))), 0, []⟩])
(.seq
(.block 0 (.loop (.seq
(.seq
(.ops [⟨(some 25), none, (.p (.mv (.tmp 8))), 0, []⟩,
⟨(some 26), none, (.p (.nilchk (.tmp 25))), 0, []⟩,
⟨(some 27), none, (.p (.fieldAt 4 (.tmp 26))), 0, []⟩,
⟨(some 28), none, (.r (.load 1 false (.tmp 27))), 0, []⟩,
⟨(some 29), none, (.p (.bin .eql (.tmp 28) (.c (.int .i64 0)))), 0, []⟩])
(.cond (.tmp 29)
.skip
(.exit 0)))
(.block 1 (.seq
(.block 2 (.loop (.seq
(.seq
(.ops [⟨(some 30), none, (.p (.mv (.tmp 8))), 0, []⟩,
⟨(some 31), none, (.a (.mkSl [(.str [])] 1 1 [(0, (1, (.c (.str [59]))))])), 0, []⟩,
⟨(some 32), none, (.h (.call (.c (.fn 29 [] [])) [(.tmp 30), (.tmp 31)])), 0, []⟩,
⟨(some 33), none, (.p (.mv (.tmp 32))), 0, []⟩,
⟨(some 34), (some (33, false)), (.p (.mv (.tmp 8))), 0, []⟩,
⟨(some 35), (some (33, false)), (.h (.call (.c (.fn 30 [] [])) [(.tmp 34)])), 0, []⟩,
⟨(some 36), (some (33, false)), (.p (.field 0 1 false (.tmp 35))), 0, []⟩,
⟨(some 37), (some (33, false)), (.p (.bin .eql (.tmp 36) (.c (.int .i64 1)))), 0, []⟩,
⟨(some 38), none, (.p (.pick (.tmp 33) (.c (.bool true)) (.tmp 37))), 0, []⟩])
(.cond (.tmp 38)
.skip
(.exit 2)))
(.block 3 (.ops [⟨(some 39), none, (.p (.mv (.tmp 8))), 0, []⟩,
⟨(some 40), none, (.h (.call (.c (.fn 31 [] [])) [(.tmp 39)])), 0, []⟩])))))
(.seq
(.seq
(.ops [⟨(some 41), none, (.p (.mv (.tmp 8))), 0, []⟩,
⟨(some 42), none, (.h (.call (.c (.fn 30 [] [])) [(.tmp 41)])), 0, []⟩,
⟨(some 43), none, (.p (.field 0 1 false (.tmp 42))), 0, []⟩,
⟨(some 44), none, (.p (.bin .eql (.tmp 43) (.c (.int .i64 0)))), 0, []⟩])
(.cond (.tmp 44)
(.exit 0)
.skip))
(.draw [⟨(some 45), none, (.p (.fieldAt 3 (.tmp 9))), 0, []⟩,
⟨(some 46), none, (.r (.load 1 false (.tmp 45))), 1, []⟩,
⟨(some 47), none, (.p (.mv (.tmp 8))), 2, []⟩,
⟨(some 48), none, (.h (.call (.c (.fn 32 [] [])) [(.tmp 47)])), 3, [1]⟩,
⟨(some 49), none, (.a (.mkSl [(.str []), (.str []), (.int .i64 0), .nilsl] 4 1 [(0, (4, (.tmp 48)))])), 4, []⟩,
⟨(some 50), none, (.h (.app 4 64 (.tmp 46) (.tmp 49))), 5, []⟩,
⟨(some 51), none, (.p (.fieldAt 3 (.tmp 9))), 6, []⟩,
⟨none, none, (.h (.store 1 (.tmp 51) (.tmp 50))), 7, []⟩])))))))
(.seq
(.seq
(.ops [⟨(some 52), none, (.p (.mv (.tmp 8))), 0, []⟩,
⟨(some 53), none, (.p (.nilchk (.tmp 52))), 0, []⟩,
⟨(some 54), none, (.p (.fieldAt 4 (.tmp 53))), 0, []⟩,
⟨(some 55), none, (.r (.load 1 false (.tmp 54))), 0, []⟩,
⟨(some 56), none, (.p (.bin .neq (.tmp 55) (.c (.int .i64 0)))), 0, []⟩])
(.cond (.tmp 56)
(.seq
(.draw [⟨(some 57), none, (.p (.build [(.str []), (.str []), (.int .i64 0), .nilsl] [])), 0, []⟩,
⟨(some 58), none, (.p (.mv (.tmp 8))), 1, []⟩,
⟨(some 59), none, (.p (.nilchk (.tmp 58))), 2, []⟩,
⟨(some 60), none, (.p (.fieldAt 5 (.tmp 59))), 3, []⟩,
⟨(some 61), none, (.r (.load 1 false (.tmp 60))), 4, []⟩,
⟨(some 62), none, (.p (.mv (.tmp 8))), 5, []⟩,
⟨(some 63), none, (.p (.nilchk (.tmp 62))), 6, []⟩,
⟨(some 64), none, (.p (.fieldAt 4 (.tmp 63))), 7, []⟩,
⟨(some 65), none, (.r (.load 1 false (.tmp 64))), 8, []⟩,
⟨none, none, (.h (.store 4 (.tmp 2) (.tmp 57))), 9, [4, 8]⟩,
⟨(some 3), none, (.p (.mv (.tmp 61))), 10, []⟩,
⟨(some 4), none, (.p (.mv (.tmp 65))), 11, []⟩])
.ret)
.skip))
(.seq
(.ops [⟨(some 66), none, (.r (.load 4 true (.tmp 9))), 0, []⟩,
⟨none, none, (.h (.store 4 (.tmp 2) (.tmp 66))), 0, []⟩,
⟨(some 3), none, (.p (.mv (.c (.int .i64 0)))), 0, []⟩,
⟨(some 4), none, (.p (.mv (.c (.int .i64 0)))), 0, []⟩])
.ret))))))))⟩
theorem c17 : Mir.compF Tryz.prog Tryz.f17 = some g17 := by kernel_rfl
/-- scribe/resolve.Resolve -/
def g18 : Mir.Fn := ⟨158, [(.tmp 2), (.tmp 3), (.tmp 4)],
(.seq
(.ops [⟨(some 1), none, (.a (.box (.tmp 0))), 0, []⟩,
⟨(some 2), none, (.p (.mv (.c .nilptr))), 0, []⟩,
⟨(some 3), none, (.p (.mv (.c (.int .i64 0)))), 0, []⟩,
⟨(some 4), none, (.p (.mv (.c (.int .i64 0)))), 0, []⟩])
(.seq
(.ops [⟨(some 15), none, (.a .mkMap), 0, []⟩,
⟨(some 16), none, (.p (.build [.nilsl, .nilsl, .nilsl] [])), 0, []⟩,
⟨(some 17), none, (.a (.box (.tmp 16))), 0, []⟩,
⟨(some 18), none, (.a .mkMap), 0, []⟩,
⟨(some 19), none, (.p (.build [.nilmap, .nilptr, .nilmap, .nilsl, (.int .i64 0), (.int .i64 0)] [(0, (1, (.tmp 15))), (1, (1, (.tmp 17))), (2, (1, (.tmp 18)))])), 0, []⟩,
⟨(some 20), none, (.a (.box (.tmp 19))), 0, []⟩,
⟨(some 5), none, (.p (.mv (.tmp 20))), 0, []⟩])
(.seq
(.ops [⟨(some 21), none, (.p (.mv (.tmp 5))), 0, []⟩,
⟨(some 22), none, (.p (.fieldAt 3 (.tmp 1))), 0, []⟩,
⟨(some 23), none, (.r (.load 1 false (.tmp 22))), 0, []⟩,
⟨(some 24), none, (.h (.call (.c (.fn 33 [] [])) [(.tmp 21), (.tmp 23)])), 0, []⟩])
(.seq
(.ops [⟨(some 25), none, (.p (.mv (.tmp 5))), 0, []⟩,
⟨(some 26), none, (.p (.fieldAt 3 (.tmp 1))), 0, []⟩,
⟨(some 27), none, (.r (.load 1 false (.tmp 26))), 0, []⟩,
⟨(some 28), none, (.h (.call (.c (.fn 34 [] [])) [(.tmp 25), (.tmp 27)])), 0, []⟩])
(.seq
(.ops [⟨(some 6), none, (.p (.mv (.c (.int .i64 0)))), 0, []⟩])
(.seq
(.seq
(.ops [⟨(some 29), none, (.p (.fieldAt 3 (.tmp 1))), 0, []⟩,
⟨(some 30), none, (.r (.load 1 false (.tmp 29))), 0, []⟩,
⟨(some 31), none, (.p (.lenSl (.tmp 30))), 0, []⟩,
⟨(some 32), none, (.p (.mv (.c (.int .i64 0)))), 0, []⟩])
(.block 0 (.loop (.seq
(.ops [⟨(some 33), none, (.p (.bin .lss (.tmp 32) (.tmp 31))), 0, []⟩])
(.seq
(.cond (.tmp 33)
.skip
(.exit 0))
(.seq
(.block 1 (.seq
(.ops [⟨(some 34), none, (.p (.idxSl 4 (.tmp 30) (.tmp 32))), 0, []⟩,
⟨(some 35), none, (.r (.load 4 true (.tmp 34))), 0, []⟩,
⟨(some 8), none, (.a (.alloc [(.str []), (.str []), (.int .i64 0), .nilsl])), 0, []⟩,
⟨none, none, (.h (.store 4 (.tmp 8) (.tmp 35))), 0, []⟩])
(.seq
(.ops [⟨(some 36), none, (.p (.mv (.tmp 5))), 0, []⟩,
⟨(some 37), none, (.r (.load 4 true (.tmp 8))), 0, []⟩,
⟨(some 38), none, (.p (.mv (.tmp 6))), 0, []⟩,
⟨(some 39), none, (.h (.call (.c (.fn 35 [] [])) [(.tmp 36), (.tmp 37), (.tmp 38)])), 0, []⟩])
(.seq
(.ops [⟨(some 40), none, (.p (.fieldAt 0 (.tmp 8))), 0, []⟩,
⟨(some 41), none, (.r (.load 1 false (.tmp 40))), 0, []⟩,
⟨(some 42), none, (.p (.bin .eql (.tmp 41) (.c (.str [102, 117, 110, 99])))), 0, []⟩])
(.cond (.tmp 42)
(.ops [⟨(some 43), none, (.p (.mv (.tmp 6))), 0, []⟩,
⟨(some 44), none, (.p (.bin .add (.tmp 43) (.c (.int .i64 1)))), 0, []⟩,
⟨(some 6), none, (.p (.mv (.tmp 44))), 0, []⟩])
.skip)))))
(.ops [⟨(some 45), none, (.p (.bin .add (.tmp 32) (.c (.int .i64 1)))), 0, []⟩,
⟨(some 32), none, (.p (.mv (.tmp 45))), 0, []⟩])))))))
(.seq
(.seq
(.ops [⟨(some 46), none, (.p (.mv (.tmp 5))), 0, []⟩,
⟨(some 47), none, (.p (.nilchk (.tmp 46))), 0, []⟩,
⟨(some 48), none, (.p (.fieldAt 5 (.tmp 47))), 0, []⟩,
⟨(some 49), none, (.r (.load 1 false (.tmp 48))), 0, []⟩,
⟨(some 50), none, (.p (.bin .neq (.tmp 49) (.c (.int .i64 0)))), 0, []⟩])
(.cond (.tmp 50)
(.seq
(.draw [⟨(some 51), none, (.p (.mv (.tmp 5))), 0, []⟩,
⟨(some 52), none, (.p (.nilchk (.tmp 51))), 1, []⟩,
⟨(some 53), none, (.p (.fieldAt 4 (.tmp 52))), 2, []⟩,
⟨(some 54), none, (.r (.load 1 false (.tmp 53))), 3, []⟩,
⟨(some 55), none, (.p (.mv (.tmp 5))), 4, []⟩,
⟨(some 56), none, (.p (.nilchk (.tmp 55))), 5, []⟩,
⟨(some 57), none, (.p (.fieldAt 5 (.tmp 56))), 6, []⟩,
⟨(some 58), none, (.r (.load 1 false (.tmp 57))), 7, []⟩,
⟨(some 2), none, (.p (.mv (.c .nilptr))), 8, []⟩,
⟨(some 3), none, (.p (.mv (.tmp 54))), 9, []⟩,
⟨(some 4), none, (.p (.mv (.tmp 58))), 10, []⟩])
.ret)
.skip))
(.seq
(.seq
(.ops [⟨(some 59), none, (.p (.mv (.tmp 5))), 0, []⟩,
⟨(some 60), none, (.p (.nilchk (.tmp 59))), 0, []⟩,
⟨(some 61), none, (.p (.fieldAt 1 (.tmp 60))), 0, []⟩,
⟨(some 62), none, (.r (.load 1 false (.tmp 61))), 0, []⟩,
⟨(some 63), none, (.p (.nilchk (.tmp 62))), 0, []⟩,
⟨(some 64), none, (.p (.fieldAt 0 (.tmp 63))), 0, []⟩,
⟨(some 65), none, (.r (.load 1 false (.tmp 64))), 0, []⟩,
⟨(some 66), none, (.p (.lenSl (.tmp 65))), 0, []⟩,
⟨(some 67), none, (.p (.mv (.c (.int .i64 0)))), 0, []⟩])
(.block 2 (.loop (.seq
(.ops [⟨(some 68), none, (.p (.bin .lss (.tmp 67) (.tmp 66))), 0, []⟩])
(.seq
(.cond (.tmp 68)
.skip
(.exit 2))
(.seq
(.block 3 (.seq
(.ops [⟨(some 69), none, (.p (.mv (.tmp 67))), 0, []⟩,
⟨(some 70), none, (.p (.idxSl 7 (.tmp 65) (.tmp 67))), 0, []⟩,
⟨(some 71), none, (.r (.load 7 true (.tmp 70))), 0, []⟩,
⟨(some 10), none, (.a (.alloc [(.str []), .nilsl, .nilsl, (.str []), (.str []), (.int .i64 0), .nilsl])), 0, []⟩,
⟨(some 9), none, (.p (.mv (.tmp 69))), 0, []⟩,
⟨none, none, (.h (.store 7 (.tmp 10) (.tmp 71))), 0, []⟩])
(.seq
(.ops [⟨(some 72), none, (.p (.fieldAt 1 (.tmp 10))), 0, []⟩,
⟨(some 73), none, (.r (.load 1 false (.tmp 72))), 0, []⟩,
⟨(some 74), none, (.p (.lenSl (.tmp 73))), 0, []⟩,
⟨(some 75), none, (.p (.mv (.c (.int .i64 0)))), 0, []⟩])
(.block 4 (.loop (.seq
(.ops [⟨(some 76), none, (.p (.bin .lss (.tmp 75) (.tmp 74))), 0, []⟩])
(.seq
(.cond (.tmp 76)
.skip
(.exit 4))
(.seq
(.block 5 (.seq
(.ops [⟨(some 77), none, (.p (.idxSl 1 (.tmp 73) (.tmp 75))), 0, []⟩,
⟨(some 78), none, (.r (.load 1 false (.tmp 77))), 0, []⟩,
⟨(some 12), none, (.p (.mv (.tmp 78))), 0, []⟩])
(.draw [⟨(some 79), none, (.p (.mv (.tmp 5))), 0, []⟩,
⟨(some 80), none, (.p (.nilchk (.tmp 79))), 1, []⟩,
⟨(some 81), none, (.p (.fieldAt 1 (.tmp 80))), 2, []⟩,
⟨(some 82), none, (.r (.load 1 false (.tmp 81))), 3, []⟩,
⟨(some 83), none, (.p (.nilchk (.tmp 82))), 4, []⟩,
⟨(some 84), none, (.p (.fieldAt 0 (.tmp 83))), 5, []⟩,
⟨(some 85), none, (.r (.load 1 false (.tmp 84))), 6, []⟩,
⟨(some 86), none, (.p (.mv (.tmp 9))), 7, []⟩,
⟨(some 87), none, (.p (.mv (.tmp 5))), 8, []⟩,
⟨(some 88), none, (.p (.nilchk (.tmp 87))), 9, []⟩,
⟨(some 89), none, (.p (.fieldAt 1 (.tmp 88))), 10, []⟩,
⟨(some 90), none, (.r (.load 1 false (.tmp 89))), 11, []⟩,
⟨(some 91), none, (.p (.nilchk (.tmp 90))), 12, []⟩,
⟨(some 92), none, (.p (.fieldAt 0 (.tmp 91))), 13, []⟩,
⟨(some 93), none, (.r (.load 1 false (.tmp 92))), 14, []⟩,
⟨(some 94), none, (.p (.mv (.tmp 9))), 15, []⟩,
⟨(some 95), none, (.p (.idxSl 7 (.tmp 93) (.tmp 94))), 16, []⟩,
⟨(some 96), none, (.p (.fieldAt 2 (.tmp 95))), 17, []⟩,
⟨(some 97), none, (.r (.load 1 false (.tmp 96))), 18, []⟩,
⟨(some 98), none, (.p (.mv (.tmp 5))), 19, []⟩,
⟨(some 99), none, (.p (.nilchk (.tmp 98))), 20, []⟩,
⟨(some 100), none, (.p (.fieldAt 2 (.tmp 99))), 21, []⟩,
⟨(some 101), none, (.r (.load 1 false (.tmp 100))), 22, []⟩,
⟨(some 102), none, (.p (.mv (.tmp 9))), 23, []⟩,
⟨(some 103), none, (.p (.mv (.tmp 12))), 24, []⟩,
⟨(some 104), none, (.p (.build [(.int .i64 0), (.str [])] [(0, (1, (.tmp 102))), (1, (1, (.tmp 103)))])), 25, []⟩,
⟨(some 105), none, (.r (.lookup (.agg [.int, .str]) (.bool false) false (.tmp 101) (.tmp 104))), 26, []⟩,
⟨(some 106), none, (.a (.mkSl [(.bool false)] 1 1 [(0, (1, (.tmp 105)))])), 27, []⟩,
⟨(some 107), none, (.h (.app 1 2 (.tmp 97) (.tmp 106))), 28, [3, 6]⟩,
⟨(some 108), none, (.p (.idxSl 7 (.tmp 85) (.tmp 86))), 29, []⟩,
⟨(some 109), none, (.p (.fieldAt 2 (.tmp 108))), 30, []⟩,
⟨none, none, (.h (.store 1 (.tmp 109) (.tmp 107))), 31, []⟩])))
(.ops [⟨(some 110), none, (.p (.bin .add (.tmp 75) (.c (.int .i64 1)))), 0, []⟩,
⟨(some 75), none, (.p (.mv (.tmp 110))), 0, []⟩])))))))))
(.ops [⟨(some 111), none, (.p (.bin .add (.tmp 67) (.c (.int .i64 1)))), 0, []⟩,
⟨(some 67), none, (.p (.mv (.tmp 111))), 0, []⟩])))))))
(.seq
(.draw [⟨(some 112), none, (.p (.mv (.tmp 5))), 0, []⟩,
⟨(some 113), none, (.p (.nilchk (.tmp 112))), 1, []⟩,
⟨(some 114), none, (.p (.fieldAt 1 (.tmp 113))), 2, []⟩,
⟨(some 115), none, (.r (.load 1 false (.tmp 114))), 3, []⟩,
⟨(some 116), none, (.p (.mv (.tmp 5))), 4, []⟩,
⟨(some 117), none, (.p (.nilchk (.tmp 116))), 5, []⟩,
⟨(some 118), none, (.p (.fieldAt 3 (.tmp 117))), 6, []⟩,
⟨(some 119), none, (.r (.load 1 false (.tmp 118))), 7, []⟩,
⟨(some 120), none, (.p (.nilchk (.tmp 115))), 8, []⟩,
⟨(some 121), none, (.p (.fieldAt 1 (.tmp 120))), 9, []⟩,
⟨none, none, (.h (.store 1 (.tmp 121) (.tmp 119))), 10, []⟩])
(.seq
(.seq
(.ops [⟨(some 122), none, (.p (.mv (.tmp 5))), 0, []⟩,
⟨(some 123), none, (.p (.nilchk (.tmp 122))), 0, []⟩,
⟨(some 124), none, (.p (.fieldAt 3 (.tmp 123))), 0, []⟩,
⟨(some 125), none, (.r (.load 1 false (.tmp 124))), 0, []⟩,
⟨(some 126), none, (.p (.lenSl (.tmp 125))), 0, []⟩,
⟨(some 127), none, (.p (.mv (.c (.int .i64 0)))), 0, []⟩])
(.block 6 (.loop (.seq
(.ops [⟨(some 128), none, (.p (.bin .lss (.tmp 127) (.tmp 126))), 0, []⟩])
(.seq
(.cond (.tmp 128)
.skip
(.exit 6))
(.seq
(.block 7 (.seq
(.ops [⟨(some 129), none, (.p (.idxSl 1 (.tmp 125) (.tmp 127))), 0, []⟩,
⟨(some 130), none, (.r (.load 1 false (.tmp 129))), 0, []⟩,
⟨(some 14), none, (.p (.mv (.tmp 130))), 0, []⟩])
(.draw [⟨(some 131), none, (.p (.mv (.tmp 5))), 0, []⟩,
⟨(some 132), none, (.p (.nilchk (.tmp 131))), 1, []⟩,
⟨(some 133), none, (.p (.fieldAt 1 (.tmp 132))), 2, []⟩,
⟨(some 134), none, (.r (.load 1 false (.tmp 133))), 3, []⟩,
⟨(some 135), none, (.p (.mv (.tmp 5))), 4, []⟩,
⟨(some 136), none, (.p (.nilchk (.tmp 135))), 5, []⟩,
⟨(some 137), none, (.p (.fieldAt 1 (.tmp 136))), 6, []⟩,
⟨(some 138), none, (.r (.load 1 false (.tmp 137))), 7, []⟩,
⟨(some 139), none, (.p (.nilchk (.tmp 138))), 8, []⟩,
⟨(some 140), none, (.p (.fieldAt 2 (.tmp 139))), 9, []⟩,
⟨(some 141), none, (.r (.load 1 false (.tmp 140))), 10, []⟩,
⟨(some 142), none, (.p (.mv (.tmp 5))), 11, []⟩,
⟨(some 143), none, (.p (.nilchk (.tmp 142))), 12, []⟩,
⟨(some 144), none, (.p (.fieldAt 2 (.tmp 143))), 13, []⟩,
⟨(some 145), none, (.r (.load 1 false (.tmp 144))), 14, []⟩,
⟨(some 146), none, (.p (.mv (.tmp 14))), 15, []⟩,
⟨(some 147), none, (.p (.build [(.int .i64 0), (.str [])] [(0, (1, (.c (.int .i64 (-1))))), (1, (1, (.tmp 146)))])), 16, []⟩,
⟨(some 148), none, (.r (.lookup (.agg [.int, .str]) (.bool false) false (.tmp 145) (.tmp 147))), 17, []⟩,
⟨(some 149), none, (.a (.mkSl [(.bool false)] 1 1 [(0, (1, (.tmp 148)))])), 18, []⟩,
⟨(some 150), none, (.h (.app 1 2 (.tmp 141) (.tmp 149))), 19, [3]⟩,
⟨(some 151), none, (.p (.nilchk (.tmp 134))), 20, []⟩,
⟨(some 152), none, (.p (.fieldAt 2 (.tmp 151))), 21, []⟩,
⟨none, none, (.h (.store 1 (.tmp 152) (.tmp 150))), 22, []⟩])))
(.ops [⟨(some 153), none, (.p (.bin .add (.tmp 127) (.c (.int .i64 1)))), 0, []⟩,
⟨(some 127), none, (.p (.mv (.tmp 153))), 0, []⟩])))))))
(.seq
(.ops [⟨(some 154), none, (.p (.mv (.tmp 5))), 0, []⟩,
⟨(some 155), none, (.p (.nilchk (.tmp 154))), 0, []⟩,
⟨(some 156), none, (.p (.fieldAt 1 (.tmp 155))), 0, []⟩,
⟨(some 157), none, (.r (.load 1 false (.tmp 156))), 0, []⟩,
⟨(some 2), none, (.p (.mv (.tmp 157))), 0, []⟩,
⟨(some 3), none, (.p (.mv (.c (.int .i64 0)))), 0, []⟩,
⟨(some 4), none, (.p (.mv (.c (.int .i64 0)))), 0, []⟩])
.ret)))))))))))⟩
theorem c18 : Mir.compF Tryz.prog Tryz.f18 = some g18 := by kernel_rfl
/-- scribe/code.find -/
def g19 : Mir.Fn := ⟨19, [(.tmp 4)],
(.seq
(.ops [⟨(some 4), none, (.p (.mv (.c (.int .i64 0)))), 0, []⟩])
(.seq
(.seq
(.ops [⟨(some 7), none, (.p (.mv (.tmp 0))), 0, []⟩,
⟨(some 8), none, (.p (.lenSl (.tmp 7))), 0, []⟩,
⟨(some 9), none, (.p (.mv (.c (.int .i64 0)))), 0, []⟩])
(.block 0 (.loop (.seq
(.ops [⟨(some 10), none, (.p (.bin .lss (.tmp 9) (.tmp 8))), 0, []⟩])
(.seq
(.cond (.tmp 10)
.skip
(.exit 0))
(.seq
(.block 1 (.seq
(.ops [⟨(some 11), none, (.p (.mv (.tmp 9))), 0, []⟩,
⟨(some 12), none, (.p (.idxSl 1 (.tmp 7) (.tmp 9))), 0, []⟩,
⟨(some 13), none, (.r (.load 1 false (.tmp 12))), 0, []⟩,
⟨(some 5), none, (.p (.mv (.tmp 11))), 0, []⟩,
⟨(some 6), none, (.p (.mv (.tmp 13))), 0, []⟩])
(.seq
(.ops [⟨(some 14), none, (.p (.mv (.tmp 6))), 0, []⟩,
⟨(some 15), none, (.p (.mv (.tmp 1))), 0, []⟩,
⟨(some 16), none, (.p (.bin .eql (.tmp 14) (.tmp 15))), 0, []⟩])
(.cond (.tmp 16)
(.seq
(.ops [⟨(some 17), none, (.p (.mv (.tmp 5))), 0, []⟩,
⟨(some 4), none, (.p (.mv (.tmp 17))), 0, []⟩])
.ret)
.skip))))
(.ops [⟨(some 18), none, (.p (.bin .add (.tmp 9) (.c (.int .i64 1)))), 0, []⟩,
⟨(some 9), none, (.p (.mv (.tmp 18))), 0, []⟩])))))))
(.seq
(.ops [⟨(some 4), none, (.p (.mv (.c (.int .i64 (-1))))), 0, []⟩])
.ret)))⟩
theorem c19 : Mir.compF Tryz.prog Tryz.f19 = some g19 := by kernel_rfl
/-- (*scribe/code.compiler).part -/
def g20 : Mir.Fn := ⟨76, [(.tmp 6)],
(.seq
(.ops [⟨(some 6), none, (.p (.mv (.c (.int .i64 0)))), 0, []⟩])
(.seq
(.ops [⟨(some 12), none, (.p (.mv (.tmp 0))), 0, []⟩,
⟨(some 13), none, (.p (.nilchk (.tmp 12))), 0, []⟩,
⟨(some 14), none, (.p (.fieldAt 0 (.tmp 13))), 0, []⟩,
⟨(some 15), none, (.r (.load 1 false (.tmp 14))), 0, []⟩,
⟨(some 16), none, (.p (.nilchk (.tmp 15))), 0, []⟩,
⟨(some 17), none, (.p (.fieldAt 0 (.tmp 16))), 0, []⟩,
⟨(some 18), none, (.r (.load 1 false (.tmp 17))), 0, []⟩,
⟨(some 19), none, (.p (.lenSl (.tmp 18))), 0, []⟩,
⟨(some 7), none, (.p (.mv (.tmp 19))), 0, []⟩])
(.seq
(.seq
(.ops [⟨(some 20), none, (.p (.mv (.tmp 1))), 0, []⟩,
⟨(some 21), none, (.p (.lenSl (.tmp 20))), 0, []⟩,
⟨(some 22), none, (.p (.mv (.c (.int .i64 0)))), 0, []⟩])
(.block 0 (.loop (.seq
(.ops [⟨(some 23), none, (.p (.bin .lss (.tmp 22) (.tmp 21))), 0, []⟩])
(.seq
(.cond (.tmp 23)
.skip
(.exit 0))
(.seq
(.block 1 (.seq
(.ops [⟨(some 24), none, (.p (.idxSl 4 (.tmp 20) (.tmp 22))), 0, []⟩,
⟨(some 25), none, (.r (.load 4 true (.tmp 24))), 0, []⟩,
⟨(some 9), none, (.a (.alloc [(.str []), (.str []), (.int .i64 0), .nilsl])), 0, []⟩,
⟨none, none, (.h (.store 4 (.tmp 9) (.tmp 25))), 0, []⟩])
(.seq
(.seq
(.ops [⟨(some 26), none, (.p (.fieldAt 0 (.tmp 9))), 0, []⟩,
⟨(some 27), none, (.r (.load 1 false (.tmp 26))), 0, []⟩,
⟨(some 28), none, (.p (.mv (.tmp 2))), 0, []⟩,
⟨(some 29), none, (.p (.bin .neq (.tmp 27) (.tmp 28))), 0, []⟩])
(.cond (.tmp 29)
(.exit 1)
.skip))
(.seq
(.ops [⟨(some 30), none, (.p (.fieldAt 3 (.tmp 9))), 0, []⟩,
⟨(some 31), none, (.r (.load 1 false (.tmp 30))), 0, []⟩,
⟨(some 32), none, (.p (.fieldAt 3 (.tmp 9))), 0, []⟩,
⟨(some 33), none, (.r (.load 1 false (.tmp 32))), 0, []⟩,
⟨(some 34), none, (.p (.lenSl (.tmp 33))), 0, []⟩,
⟨(some 35), none, (.p (.bin .sub (.tmp 34) (.c (.int .i64 1)))), 0, []⟩,
⟨(some 36), none, (.p (.idxSl 4 (.tmp 31) (.tmp 35))), 0, []⟩,
⟨(some 37), none, (.r (.load 4 true (.tmp 36))), 0, []⟩,
⟨(some 10), none, (.a (.alloc [(.str []), (.str []), (.int .i64 0), .nilsl])), 0, []⟩,
⟨none, none, (.h (.store 4 (.tmp 10) (.tmp 37))), 0, []⟩])
(.seq
(.seq
(.ops [⟨(some 38), none, (.p (.mv (.tmp 2))), 0, []⟩,
⟨(some 39), none, (.p (.bin .neq (.tmp 38) (.c (.str [114, 117, 108, 101])))), 0, []⟩,
⟨(some 40), none, (.p (.mv (.tmp 39))), 0, []⟩,
⟨(some 41), (some (40, false)), (.p (.fieldAt 3 (.tmp 9))), 0, []⟩,
⟨(some 42), (some (40, false)), (.r (.load 1 false (.tmp 41))), 0, []⟩,
⟨(some 43), (some (40, false)), (.p (.idxSl 4 (.tmp 42) (.c (.int .i64 0)))), 0, []⟩,
⟨(some 44), (some (40, false)), (.p (.fieldAt 0 (.tmp 43))), 0, []⟩,
⟨(some 45), (some (40, false)), (.r (.load 1 false (.tmp 44))), 0, []⟩,
⟨(some 46), (some (40, false)), (.p (.bin .eql (.tmp 45) (.c (.str [97, 108, 119, 97, 121, 115])))), 0, []⟩,
⟨(some 47), none, (.p (.pick (.tmp 40) (.c (.bool true)) (.tmp 46))), 0, []⟩])
(.cond (.tmp 47)
(.seq
(.ops [⟨(some 48), none, (.p (.mv (.tmp 0))), 0, []⟩,
⟨(some 49), none, (.r (.load 4 true (.tmp 10))), 0, []⟩,
⟨(some 50), none, (.h (.call (.c (.fn 21 [] [])) [(.tmp 48), (.tmp 49)])), 0, []⟩])
(.exit 1))
.skip))
(.seq
(.ops [⟨(some 51), none, (.p (.mv (.tmp 0))), 0, []⟩,
⟨(some 52), none, (.p (.fieldAt 3 (.tmp 9))), 0, []⟩,
⟨(some 53), none, (.r (.load 1 false (.tmp 52))), 0, []⟩,
⟨(some 54), none, (.p (.idxSl 4 (.tmp 53) (.c (.int .i64 0)))), 0, []⟩,
⟨(some 55), none, (.r (.load 4 true (.tmp 54))), 0, []⟩,
⟨(some 56), none, (.h (.call (.c (.fn 36 [] [])) [(.tmp 51), (.tmp 55)])), 0, []⟩])
(.seq
(.ops [⟨(some 57), none, (.p (.mv (.tmp 0))), 0, []⟩,
⟨(some 58), none, (.h (.call (.c (.fn 23 [] [])) [(.tmp 57), (.c (.int .i64 17)), (.c (.int .i64 0)), (.c (.int .i64 0))])), 0, []⟩,
⟨(some 11), none, (.p (.mv (.tmp 58))), 0, []⟩])
(.seq
(.seq
(.ops [⟨(some 59), none, (.p (.fieldAt 0 (.tmp 10))), 0, []⟩,
⟨(some 60), none, (.r (.load 1 false (.tmp 59))), 0, []⟩,
⟨(some 61), none, (.p (.bin .eql (.tmp 60) (.c (.str [100, 101, 102, 97, 117, 108, 116])))), 0, []⟩])
(.cond (.tmp 61)
(.ops [⟨(some 62), none, (.p (.build [(.str []), (.str []), (.int .i64 0), .nilsl] [(0, (1, (.c (.str [110, 111, 110, 101]))))])), 0, []⟩,
⟨(some 63), none, (.a (.mkSl [(.str []), (.str []), (.int .i64 0), .nilsl] 4 1 [(0, (4, (.tmp 62)))])), 0, []⟩,
⟨(some 64), none, (.p (.build [(.str []), (.str []), (.int .i64 0), .nilsl] [(0, (1, (.c (.str [112, 114, 105, 110, 116])))), (3, (1, (.tmp 63)))])), 0, []⟩,
⟨none, none, (.h (.store 4 (.tmp 10) (.tmp 64))), 0, []⟩])
.skip))
(.seq
(.ops [⟨(some 65), none, (.p (.mv (.tmp 0))), 0, []⟩,
⟨(some 66), none, (.r (.load 4 true (.tmp 10))), 0, []⟩,
⟨(some 67), none, (.h (.call (.c (.fn 21 [] [])) [(.tmp 65), (.tmp 66)])), 0, []⟩])
(.ops [⟨(some 68), none, (.p (.mv (.tmp 0))), 0, []⟩,
⟨(some 69), none, (.p (.mv (.tmp 11))), 0, []⟩,
⟨(some 70), none, (.a (.mkSl [(.int .i64 0)] 1 1 [(0, (1, (.tmp 69)))])), 0, []⟩,
⟨(some 71), none, (.h (.call (.c (.fn 37 [] [])) [(.tmp 68), (.tmp 70)])), 0, []⟩]))))))))))
(.ops [⟨(some 72), none, (.p (.bin .add (.tmp 22) (.c (.int .i64 1)))), 0, []⟩,
⟨(some 22), none, (.p (.mv (.tmp 72))), 0, []⟩])))))))
(.seq
(.ops [⟨(some 73), none, (.p (.mv (.tmp 0))), 0, []⟩,
⟨(some 74), none, (.h (.call (.c (.fn 23 [] [])) [(.tmp 73), (.c (.int .i64 34)), (.c (.int .i64 0)), (.c (.int .i64 0))])), 0, []⟩])
(.seq
(.ops [⟨(some 75), none, (.p (.mv (.tmp 7))), 0, []⟩,
⟨(some 6), none, (.p (.mv (.tmp 75))), 0, []⟩])
.ret)))))⟩
theorem c20 : Mir.compF Tryz.prog Tryz.f20 = some g20 := by kernel_rfl
/-- (*scribe/code.compiler).stmt -/
def g21 : Mir.Fn := ⟨294, [],
(.seq
(.ops [⟨(some 2), none, (.a (.box (.tmp 0))), 0, []⟩,
⟨(some 3), none, (.a (.box (.tmp 1))), 0, []⟩])
(.seq
(.ops [⟨(some 20), none, (.p (.fieldAt 0 (.tmp 3))), 0, []⟩,
⟨(some 21), none, (.r (.load 1 false (.tmp 20))), 0, []⟩])
(.block 0 (.seq
(.ops [⟨(some 23), none, (.p (.bin .eql (.tmp 21) (.c (.str [98, 108, 111, 99, 107])))), 0, []⟩,
⟨(some 22), none, (.p (.mv (.tmp 23))), 0, []⟩])
(.cond (.tmp 22)
(.seq
(.ops [⟨(some 24), none, (.p (.fieldAt 3 (.tmp 3))), 0, []⟩,
⟨(some 25), none, (.r (.load 1 false (.tmp 24))), 0, []⟩,
⟨(some 26), none, (.p (.lenSl (.tmp 25))), 0, []⟩,
⟨(some 27), none, (.p (.mv (.c (.int .i64 0)))), 0, []⟩])
(.block 1 (.loop (.seq
(.ops [⟨(some 28), none, (.p (.bin .lss (.tmp 27) (.tmp 26))), 0, []⟩])
(.seq
(.cond (.tmp 28)
.skip
(.exit 1))
(.seq
(.block 2 (.seq
(.ops [⟨(some 29), none, (.p (.idxSl 4 (.tmp 25) (.tmp 27))), 0, []⟩,
⟨(some 30), none, (.r (.load 4 true (.tmp 29))), 0, []⟩,
⟨(some 5), none, (.a (.alloc [(.str []), (.str []), (.int .i64 0), .nilsl])), 0, []⟩,
⟨none, none, (.h (.store 4 (.tmp 5) (.tmp 30))), 0, []⟩])
(.ops [⟨(some 31), none, (.r (.load 1 false (.tmp 2))), 0, []⟩,
⟨(some 32), none, (.r (.load 4 true (.tmp 5))), 0, []⟩,
⟨(some 33), none, (.h (.call (.c (.fn 21 [] [])) [(.tmp 31), (.tmp 32)])), 0, []⟩])))
(.ops [⟨(some 34), none, (.p (.bin .add (.tmp 27) (.c (.int .i64 1)))), 0, []⟩,
⟨(some 27), none, (.p (.mv (.tmp 34))), 0, []⟩])))))))
(.seq
(.ops [⟨(some 36), none, (.p (.bin .eql (.tmp 21) (.c (.str [101, 120, 112, 114])))), 0, []⟩,
⟨(some 35), none, (.p (.mv (.tmp 36))), 0, []⟩])
(.cond (.tmp 35)
(.seq
(.draw [⟨(some 37), none, (.r (.load 1 false (.tmp 2))), 0, []⟩,
⟨(some 38), none, (.p (.fieldAt 3 (.tmp 3))), 1, []⟩,
⟨(some 39), none, (.r (.load 1 false (.tmp 38))), 2, []⟩,
⟨(some 40), none, (.p (.idxSl 4 (.tmp 39) (.c (.int .i64 0)))), 3, []⟩,
⟨(some 41), none, (.r (.load 4 true (.tmp 40))), 4, []⟩,
⟨(some 42), none, (.h (.call (.c (.fn 36 [] [])) [(.tmp 37), (.tmp 41)])), 5, []⟩])
(.ops [⟨(some 43), none, (.r (.load 1 false (.tmp 2))), 0, []⟩,
⟨(some 44), none, (.h (.call (.c (.fn 23 [] [])) [(.tmp 43), (.c (.int .i64 18)), (.c (.int .i64 0)), (.c (.int .i64 0))])), 0, []⟩]))
(.seq
(.ops [⟨(some 46), none, (.p (.bin .eql (.tmp 21) (.c (.str [105, 102])))), 0, []⟩,
⟨(some 45), none, (.p (.mv (.tmp 46))), 0, []⟩])
(.cond (.tmp 45)
(.seq
(.draw [⟨(some 47), none, (.r (.load 1 false (.tmp 2))), 0, []⟩,
⟨(some 48), none, (.p (.fieldAt 3 (.tmp 3))), 1, []⟩,
⟨(some 49), none, (.r (.load 1 false (.tmp 48))), 2, []⟩,
⟨(some 50), none, (.p (.idxSl 4 (.tmp 49) (.c (.int .i64 0)))), 3, []⟩,
⟨(some 51), none, (.r (.load 4 true (.tmp 50))), 4, []⟩,
⟨(some 52), none, (.h (.call (.c (.fn 36 [] [])) [(.tmp 47), (.tmp 51)])), 5, []⟩])
(.seq
(.ops [⟨(some 53), none, (.r (.load 1 false (.tmp 2))), 0, []⟩,
⟨(some 54), none, (.h (.call (.c (.fn 23 [] [])) [(.tmp 53), (.c (.int .i64 17)), (.c (.int .i64 0)), (.c (.int .i64 0))])), 0, []⟩,
⟨(some 6), none, (.p (.mv (.tmp 54))), 0, []⟩])
(.seq
(.draw [⟨(some 55), none, (.r (.load 1 false (.tmp 2))), 0, []⟩,
⟨(some 56), none, (.p (.fieldAt 3 (.tmp 3))), 1, []⟩,
⟨(some 57), none, (.r (.load 1 false (.tmp 56))), 2, []⟩,
⟨(some 58), none, (.p (.idxSl 4 (.tmp 57) (.c (.int .i64 1)))), 3, []⟩,
⟨(some 59), none, (.r (.load 4 true (.tmp 58))), 4, []⟩,
⟨(some 60), none, (.h (.call (.c (.fn 21 [] [])) [(.tmp 55), (.tmp 59)])), 5, []⟩])
(.seq
(.seq
(.ops [⟨(some 61), none, (.p (.fieldAt 3 (.tmp 3))), 0, []⟩,
⟨(some 62), none, (.r (.load 1 false (.tmp 61))), 0, []⟩,
⟨(some 63), none, (.p (.lenSl (.tmp 62))), 0, []⟩,
⟨(some 64), none, (.p (.bin .eql (.tmp 63) (.c (.int .i64 3)))), 0, []⟩])
(.cond (.tmp 64)
(.seq
(.ops [⟨(some 65), none, (.r (.load 1 false (.tmp 2))), 0, []⟩,
⟨(some 66), none, (.h (.call (.c (.fn 23 [] [])) [(.tmp 65), (.c (.int .i64 15)), (.c (.int .i64 0)), (.c (.int .i64 0))])), 0, []⟩,
⟨(some 7), none, (.p (.mv (.tmp 66))), 0, []⟩])
(.seq
(.ops [⟨(some 67), none, (.r (.load 1 false (.tmp 2))), 0, []⟩,
⟨(some 68), none, (.p (.mv (.tmp 6))), 0, []⟩,
⟨(some 69), none, (.a (.mkSl [(.int .i64 0)] 1 1 [(0, (1, (.tmp 68)))])), 0, []⟩,
⟨(some 70), none, (.h (.call (.c (.fn 37 [] [])) [(.tmp 67), (.tmp 69)])), 0, []⟩])
(.seq
(.draw [⟨(some 71), none, (.r (.load 1 false (.tmp 2))), 0, []⟩,
⟨(some 72), none, (.p (.fieldAt 3 (.tmp 3))), 1, []⟩,
⟨(some 73), none, (.r (.load 1 false (.tmp 72))), 2, []⟩,
⟨(some 74), none, (.p (.idxSl 4 (.tmp 73) (.c (.int .i64 2)))), 3, []⟩,
⟨(some 75), none, (.r (.load 4 true (.tmp 74))), 4, []⟩,
⟨(some 76), none, (.h (.call (.c (.fn 21 [] [])) [(.tmp 71), (.tmp 75)])), 5, []⟩])
(.ops [⟨(some 77), none, (.p (.mv (.tmp 7))), 0, []⟩,
⟨(some 6), none, (.p (.mv (.tmp 77))), 0, []⟩]))))
.skip))
(.ops [⟨(some 78), none, (.r (.load 1 false (.tmp 2))), 0, []⟩,
⟨(some 79), none, (.p (.mv (.tmp 6))), 0, []⟩,
⟨(some 80), none, (.a (.mkSl [(.int .i64 0)] 1 1 [(0, (1, (.tmp 79)))])), 0, []⟩,
⟨(some 81), none, (.h (.call (.c (.fn 37 [] [])) [(.tmp 78), (.tmp 80)])), 0, []⟩])))))
(.seq
(.ops [⟨(some 83), none, (.p (.bin .eql (.tmp 21) (.c (.str [119, 104, 105, 108, 101])))), 0, []⟩,
⟨(some 82), none, (.p (.mv (.tmp 83))), 0, []⟩])
(.cond (.tmp 82)
(.draw [⟨(some 84), none, (.r (.load 1 false (.tmp 2))), 0, []⟩,
⟨(some 85), none, (.p (.fieldAt 3 (.tmp 3))), 1, []⟩,
⟨(some 86), none, (.r (.load 1 false (.tmp 85))), 2, []⟩,
⟨(some 87), none, (.p (.idxSl 4 (.tmp 86) (.c (.int .i64 0)))), 3, []⟩,
⟨(some 88), none, (.r (.load 4 true (.tmp 87))), 4, []⟩,
⟨(some 89), none, (.p (.fieldAt 3 (.tmp 3))), 5, []⟩,
⟨(some 90), none, (.r (.load 1 false (.tmp 89))), 6, []⟩,
⟨(some 91), none, (.p (.idxSl 4 (.tmp 90) (.c (.int .i64 1)))), 7, []⟩,
⟨(some 92), none, (.r (.load 4 true (.tmp 91))), 8, []⟩,
⟨(some 93), none, (.h (.call (.c (.fn 38 [] [])) [(.tmp 84), (.tmp 88), (.tmp 92), (.c (.fn 39 [] []))])), 9, []⟩])
(.seq
(.ops [⟨(some 95), none, (.p (.bin .eql (.tmp 21) (.c (.str [102, 111, 114])))), 0, []⟩,
⟨(some 94), none, (.p (.mv (.tmp 95))), 0, []⟩])
(.cond (.tmp 94)
(.seq
(.draw [⟨(some 96), none, (.r (.load 1 false (.tmp 2))), 0, []⟩,
⟨(some 97), none, (.p (.fieldAt 3 (.tmp 3))), 1, []⟩,
⟨(some 98), none, (.r (.load 1 false (.tmp 97))), 2, []⟩,
⟨(some 99), none, (.p (.idxSl 4 (.tmp 98) (.c (.int .i64 0)))), 3, []⟩,
⟨(some 100), none, (.r (.load 4 true (.tmp 99))), 4, []⟩,
⟨(some 101), none, (.h (.call (.c (.fn 21 [] [])) [(.tmp 96), (.tmp 100)])), 5, []⟩])
(.draw [⟨(some 102), none, (.r (.load 1 false (.tmp 2))), 0, []⟩,
⟨(some 103), none, (.p (.fieldAt 3 (.tmp 3))), 1, []⟩,
⟨(some 104), none, (.r (.load 1 false (.tmp 103))), 2, []⟩,
⟨(some 105), none, (.p (.idxSl 4 (.tmp 104) (.c (.int .i64 1)))), 3, []⟩,
⟨(some 106), none, (.r (.load 4 true (.tmp 105))), 4, []⟩,
⟨(some 107), none, (.p (.fieldAt 3 (.tmp 3))), 5, []⟩,
⟨(some 108), none, (.r (.load 1 false (.tmp 107))), 6, []⟩,
⟨(some 109), none, (.p (.idxSl 4 (.tmp 108) (.c (.int .i64 3)))), 7, []⟩,
⟨(some 110), none, (.r (.load 4 true (.tmp 109))), 8, []⟩,
⟨(some 111), none, (.p (.mkFn 40 [] [(.tmp 2), (.tmp 3)])), 9, []⟩,
⟨(some 112), none, (.h (.call (.c (.fn 38 [] [])) [(.tmp 102), (.tmp 106), (.tmp 110), (.tmp 111)])), 10, []⟩]))
(.seq
(.ops [⟨(some 114), none, (.p (.bin .eql (.tmp 21) (.c (.str [102, 111, 114, 105, 110])))), 0, []⟩,
⟨(some 113), none, (.p (.mv (.tmp 114))), 0, []⟩])
(.cond (.tmp 113)
(.seq
(.draw [⟨(some 116), none, (.r (.load 1 false (.tmp 2))), 0, []⟩,
⟨(some 117), none, (.p (.fieldAt 3 (.tmp 3))), 1, []⟩,
⟨(some 118), none, (.r (.load 1 false (.tmp 117))), 2, []⟩,
⟨(some 119), none, (.p (.idxSl 4 (.tmp 118) (.c (.int .i64 0)))), 3, []⟩,
⟨(some 120), none, (.p (.fieldAt 1 (.tmp 119))), 4, []⟩,
⟨(some 121), none, (.r (.load 1 false (.tmp 120))), 5, []⟩,
⟨(some 122), none, (.h (.call (.c (.fn 41 [] [])) [(.tmp 116), (.tmp 121)])), 6, []⟩,
⟨(some 115), none, (.p (.mv (.tmp 122))), 7, []⟩,
⟨(some 123), none, (.p (.ext (.tmp 115) 0)), 8, []⟩,
⟨(some 124), none, (.p (.ext (.tmp 115) 1)), 9, []⟩,
⟨(some 8), none, (.p (.mv (.tmp 123))), 10, []⟩,
⟨(some 9), none, (.p (.mv (.tmp 124))), 11, []⟩])
(.seq
(.ops [⟨(some 125), none, (.r (.load 1 false (.tmp 2))), 0, []⟩,
⟨(some 126), none, (.p (.mv (.tmp 8))), 0, []⟩,
⟨(some 127), none, (.p (.mv (.tmp 9))), 0, []⟩,
⟨(some 128), none, (.h (.call (.c (.fn 23 [] [])) [(.tmp 125), (.c (.int .i64 29)), (.tmp 126), (.tmp 127)])), 0, []⟩])
(.seq
(.ops [⟨(some 129), none, (.r (.load 1 false (.tmp 2))), 0, []⟩,
⟨(some 130), none, (.h (.call (.c (.fn 23 [] [])) [(.tmp 129), (.c (.int .i64 30)), (.c (.int .i64 0)), (.c (.int .i64 0))])), 0, []⟩,
⟨(some 10), none, (.p (.mv (.tmp 130))), 0, []⟩])
(.seq
(.ops [⟨(some 132), none, (.r (.load 1 false (.tmp 2))), 0, []⟩,
⟨(some 133), none, (.p (.fieldAt 1 (.tmp 3))), 0, []⟩,
⟨(some 134), none, (.r (.load 1 false (.tmp 133))), 0, []⟩,
⟨(some 135), none, (.h (.call (.c (.fn 41 [] [])) [(.tmp 132), (.tmp 134)])), 0, []⟩,
⟨(some 131), none, (.p (.mv (.tmp 135))), 0, []⟩,
⟨(some 136), none, (.p (.ext (.tmp 131) 0)), 0, []⟩,
⟨(some 137), none, (.p (.ext (.tmp 131) 1)), 0, []⟩,
⟨(some 8), none, (.p (.mv (.tmp 136))), 0, []⟩,
⟨(some 9), none, (.p (.mv (.tmp 137))), 0, []⟩])
(.seq
(.ops [⟨(some 138), none, (.r (.load 1 false (.tmp 2))), 0, []⟩,
⟨(some 139), none, (.p (.mv (.tmp 8))), 0, []⟩,
⟨(some 140), none, (.p (.mv (.tmp 9))), 0, []⟩,
⟨(some 141), none, (.h (.call (.c (.fn 23 [] [])) [(.tmp 138), (.c (.int .i64 6)), (.tmp 139), (.tmp 140)])), 0, []⟩])
(.seq
(.ops [⟨(some 142), none, (.r (.load 1 false (.tmp 2))), 0, []⟩,
⟨(some 143), none, (.h (.call (.c (.fn 23 [] [])) [(.tmp 142), (.c (.int .i64 18)), (.c (.int .i64 0)), (.c (.int .i64 0))])), 0, []⟩])
(.seq
(.draw [⟨(some 144), none, (.r (.load 1 false (.tmp 2))), 0, []⟩,
⟨(some 145), none, (.p (.fieldAt 3 (.tmp 3))), 1, []⟩,
⟨(some 146), none, (.r (.load 1 false (.tmp 145))), 2, []⟩,
⟨(some 147), none, (.p (.idxSl 4 (.tmp 146) (.c (.int .i64 1)))), 3, []⟩,
⟨(some 148), none, (.r (.load 4 true (.tmp 147))), 4, []⟩,
⟨(some 149), none, (.h (.call (.c (.fn 42 [] [])) [(.tmp 144), (.tmp 148), (.c (.bool true))])), 5, []⟩,
⟨(some 11), none, (.p (.mv (.tmp 149))), 6, []⟩])
(.seq
(.draw [⟨(some 150), none, (.r (.load 1 false (.tmp 2))), 0, []⟩,
⟨(some 151), none, (.p (.mv (.tmp 11))), 1, []⟩,
⟨(some 152), none, (.p (.nilchk (.tmp 151))), 2, []⟩,
⟨(some 153), none, (.p (.fieldAt 0 (.tmp 152))), 3, []⟩,
⟨(some 154), none, (.r (.load 1 false (.tmp 153))), 4, []⟩,
⟨(some 155), none, (.h (.call (.c (.fn 37 [] [])) [(.tmp 150), (.tmp 154)])), 5, []⟩])
(.seq
(.ops [⟨(some 156), none, (.r (.load 1 false (.tmp 2))), 0, []⟩,
⟨(some 157), none, (.p (.mv (.tmp 10))), 0, []⟩,
⟨(some 158), none, (.h (.call (.c (.fn 23 [] [])) [(.tmp 156), (.c (.int .i64 15)), (.tmp 157), (.c (.int .i64 0))])), 0, []⟩])
(.seq
(.draw [⟨(some 159), none, (.r (.load 1 false (.tmp 2))), 0, []⟩,
⟨(some 160), none, (.p (.mv (.tmp 11))), 1, []⟩,
⟨(some 161), none, (.p (.nilchk (.tmp 160))), 2, []⟩,
⟨(some 162), none, (.p (.fieldAt 1 (.tmp 161))), 3, []⟩,
⟨(some 163), none, (.r (.load 1 false (.tmp 162))), 4, []⟩,
⟨(some 164), none, (.p (.mv (.tmp 10))), 5, []⟩,
⟨(some 165), none, (.a (.mkSl [(.int .i64 0)] 1 1 [(0, (1, (.tmp 164)))])), 6, []⟩,
⟨(some 166), none, (.h (.app 1 8 (.tmp 163) (.tmp 165))), 7, [0]⟩,
⟨(some 167), none, (.h (.call (.c (.fn 37 [] [])) [(.tmp 159), (.tmp 166)])), 8, []⟩])
(.ops [⟨(some 168), none, (.r (.load 1 false (.tmp 2))), 0, []⟩,
⟨(some 169), none, (.h (.call (.c (.fn 23 [] [])) [(.tmp 168), (.c (.int .i64 31)), (.c (.int .i64 0)), (.c (.int .i64 0))])), 0, []⟩])))))))))))
(.seq
(.seq
(.ops [⟨(some 171), none, (.p (.bin .eql (.tmp 21) (.c (.str [98, 114, 101, 97, 107])))), 0, []⟩,
⟨(some 170), none, (.p (.mv (.tmp 171))), 0, []⟩])
(.cond (.tmp 170)
.skip
(.ops [⟨(some 172), none, (.p (.bin .eql (.tmp 21) (.c (.str [99, 111, 110, 116, 105, 110, 117, 101])))), 0, []⟩,
⟨(some 170), none, (.p (.mv (.tmp 172))), 0, []⟩])))
(.cond (.tmp 170)
(.seq
(.draw [⟨(some 173), none, (.r (.load 1 false (.tmp 2))), 0, []⟩,
⟨(some 174), none, (.p (.nilchk (.tmp 173))), 1, []⟩,
⟨(some 175), none, (.p (.fieldAt 3 (.tmp 174))), 2, []⟩,
⟨(some 176), none, (.r (.load 1 false (.tmp 175))), 3, []⟩,
⟨(some 177), none, (.r (.load 1 false (.tmp 2))), 4, []⟩,
⟨(some 178), none, (.p (.nilchk (.tmp 177))), 5, []⟩,
⟨(some 179), none, (.p (.fieldAt 3 (.tmp 178))), 6, []⟩,
⟨(some 180), none, (.r (.load 1 false (.tmp 179))), 7, []⟩,
⟨(some 181), none, (.p (.lenSl (.tmp 180))), 8, []⟩,
⟨(some 182), none, (.p (.bin .sub (.tmp 181) (.c (.int .i64 1)))), 9, []⟩,
⟨(some 183), none, (.p (.idxSl 1 (.tmp 176) (.tmp 182))), 10, []⟩,
⟨(some 184), none, (.r (.load 1 false (.tmp 183))), 11, []⟩,
⟨(some 12), none, (.p (.mv (.tmp 184))), 12, []⟩])
(.seq
(.ops [⟨(some 185), none, (.r (.load 1 false (.tmp 2))), 0, []⟩,
⟨(some 186), none, (.h (.call (.c (.fn 23 [] [])) [(.tmp 185), (.c (.int .i64 15)), (.c (.int .i64 0)), (.c (.int .i64 0))])), 0, []⟩,
⟨(some 13), none, (.p (.mv (.tmp 186))), 0, []⟩])
(.seq
(.ops [⟨(some 187), none, (.p (.fieldAt 0 (.tmp 3))), 0, []⟩,
⟨(some 188), none, (.r (.load 1 false (.tmp 187))), 0, []⟩,
⟨(some 189), none, (.p (.bin .eql (.tmp 188) (.c (.str [98, 114, 101, 97, 107])))), 0, []⟩])
(.cond (.tmp 189)
(.ops [⟨(some 190), none, (.p (.mv (.tmp 12))), 0, []⟩,
⟨(some 191), none, (.p (.mv (.tmp 12))), 0, []⟩,
⟨(some 192), none, (.p (.nilchk (.tmp 191))), 0, []⟩,
⟨(some 193), none, (.p (.fieldAt 1 (.tmp 192))), 0, []⟩,
⟨(some 194), none, (.r (.load 1 false (.tmp 193))), 0, []⟩,
⟨(some 195), none, (.p (.mv (.tmp 13))), 0, []⟩,
⟨(some 196), none, (.a (.mkSl [(.int .i64 0)] 1 1 [(0, (1, (.tmp 195)))])), 0, []⟩,
⟨(some 197), none, (.h (.app 1 8 (.tmp 194) (.tmp 196))), 0, []⟩,
⟨(some 198), none, (.p (.nilchk (.tmp 190))), 0, []⟩,
⟨(some 199), none, (.p (.fieldAt 1 (.tmp 198))), 0, []⟩,
⟨none, none, (.h (.store 1 (.tmp 199) (.tmp 197))), 0, []⟩])
(.ops [⟨(some 200), none, (.p (.mv (.tmp 12))), 0, []⟩,
⟨(some 201), none, (.p (.mv (.tmp 12))), 0, []⟩,
⟨(some 202), none, (.p (.nilchk (.tmp 201))), 0, []⟩,
⟨(some 203), none, (.p (.fieldAt 0 (.tmp 202))), 0, []⟩,
⟨(some 204), none, (.r (.load 1 false (.tmp 203))), 0, []⟩,
⟨(some 205), none, (.p (.mv (.tmp 13))), 0, []⟩,
⟨(some 206), none, (.a (.mkSl [(.int .i64 0)] 1 1 [(0, (1, (.tmp 205)))])), 0, []⟩,
⟨(some 207), none, (.h (.app 1 8 (.tmp 204) (.tmp 206))), 0, []⟩,
⟨(some 208), none, (.p (.nilchk (.tmp 200))), 0, []⟩,
⟨(some 209), none, (.p (.fieldAt 0 (.tmp 208))), 0, []⟩,
⟨none, none, (.h (.store 1 (.tmp 209) (.tmp 207))), 0, []⟩])))))
(.seq
(.ops [⟨(some 211), none, (.p (.bin .eql (.tmp 21) (.c (.str [110, 101, 120, 116])))), 0, []⟩,
⟨(some 210), none, (.p (.mv (.tmp 211))), 0, []⟩])
(.cond (.tmp 210)
(.ops [⟨(some 212), none, (.r (.load 1 false (.tmp 2))), 0, []⟩,
⟨(some 213), none, (.h (.call (.c (.fn 23 [] [])) [(.tmp 212), (.c (.int .i64 32)), (.c (.int .i64 0)), (.c (.int .i64 0))])), 0, []⟩])
(.seq
(.ops [⟨(some 215), none, (.p (.bin .eql (.tmp 21) (.c (.str [101, 120, 105, 116])))), 0, []⟩,
⟨(some 214), none, (.p (.mv (.tmp 215))), 0, []⟩])
(.cond (.tmp 214)
(.seq
(.seq
(.ops [⟨(some 216), none, (.p (.fieldAt 3 (.tmp 3))), 0, []⟩,
⟨(some 217), none, (.r (.load 1 false (.tmp 216))), 0, []⟩,
⟨(some 218), none, (.p (.lenSl (.tmp 217))), 0, []⟩,
⟨(some 219), none, (.p (.mv (.c (.int .i64 0)))), 0, []⟩])
(.block 3 (.loop (.seq
(.ops [⟨(some 220), none, (.p (.bin .lss (.tmp 219) (.tmp 218))), 0, []⟩])
(.seq
(.cond (.tmp 220)
.skip
(.exit 3))
(.seq
(.block 4 (.seq
(.ops [⟨(some 221), none, (.p (.idxSl 4 (.tmp 217) (.tmp 219))), 0, []⟩,
⟨(some 222), none, (.r (.load 4 true (.tmp 221))), 0, []⟩,
⟨(some 15), none, (.a (.alloc [(.str []), (.str []), (.int .i64 0), .nilsl])), 0, []⟩,
⟨none, none, (.h (.store 4 (.tmp 15) (.tmp 222))), 0, []⟩])
(.ops [⟨(some 223), none, (.r (.load 1 false (.tmp 2))), 0, []⟩,
⟨(some 224), none, (.r (.load 4 true (.tmp 15))), 0, []⟩,
⟨(some 225), none, (.h (.call (.c (.fn 36 [] [])) [(.tmp 223), (.tmp 224)])), 0, []⟩])))
(.ops [⟨(some 226), none, (.p (.bin .add (.tmp 219) (.c (.int .i64 1)))), 0, []⟩,
⟨(some 219), none, (.p (.mv (.tmp 226))), 0, []⟩])))))))
(.ops [⟨(some 227), none, (.r (.load 1 false (.tmp 2))), 0, []⟩,
⟨(some 228), none, (.p (.fieldAt 3 (.tmp 3))), 0, []⟩,
⟨(some 229), none, (.r (.load 1 false (.tmp 228))), 0, []⟩,
⟨(some 230), none, (.p (.lenSl (.tmp 229))), 0, []⟩,
⟨(some 231), none, (.h (.call (.c (.fn 23 [] [])) [(.tmp 227), (.c (.int .i64 33)), (.tmp 230), (.c (.int .i64 0))])), 0, []⟩]))
(.seq
(.ops [⟨(some 233), none, (.p (.bin .eql (.tmp 21) (.c (.str [114, 101, 116, 117, 114, 110])))), 0, []⟩,
⟨(some 232), none, (.p (.mv (.tmp 233))), 0, []⟩])
(.cond (.tmp 232)
(.seq
(.seq
(.ops [⟨(some 234), none, (.p (.fieldAt 3 (.tmp 3))), 0, []⟩,
⟨(some 235), none, (.r (.load 1 false (.tmp 234))), 0, []⟩,
⟨(some 236), none, (.p (.lenSl (.tmp 235))), 0, []⟩,
⟨(some 237), none, (.p (.bin .eql (.tmp 236) (.c (.int .i64 0)))), 0, []⟩])
(.cond (.tmp 237)
(.ops [⟨(some 238), none, (.r (.load 1 false (.tmp 2))), 0, []⟩,
⟨(some 239), none, (.h (.call (.c (.fn 22 [] [])) [(.tmp 238), (.c (.str []))])), 0, []⟩])
.skip))
(.seq
(.seq
(.ops [⟨(some 240), none, (.p (.fieldAt 3 (.tmp 3))), 0, []⟩,
⟨(some 241), none, (.r (.load 1 false (.tmp 240))), 0, []⟩,
⟨(some 242), none, (.p (.lenSl (.tmp 241))), 0, []⟩,
⟨(some 243), none, (.p (.mv (.c (.int .i64 0)))), 0, []⟩])
(.block 5 (.loop (.seq
(.ops [⟨(some 244), none, (.p (.bin .lss (.tmp 243) (.tmp 242))), 0, []⟩])
(.seq
(.cond (.tmp 244)
.skip
(.exit 5))
(.seq
(.block 6 (.seq
(.ops [⟨(some 245), none, (.p (.idxSl 4 (.tmp 241) (.tmp 243))), 0, []⟩,
⟨(some 246), none, (.r (.load 4 true (.tmp 245))), 0, []⟩,
⟨(some 17), none, (.a (.alloc [(.str []), (.str []), (.int .i64 0), .nilsl])), 0, []⟩,
⟨none, none, (.h (.store 4 (.tmp 17) (.tmp 246))), 0, []⟩])
(.ops [⟨(some 247), none, (.r (.load 1 false (.tmp 2))), 0, []⟩,
⟨(some 248), none, (.r (.load 4 true (.tmp 17))), 0, []⟩,
⟨(some 249), none, (.h (.call (.c (.fn 36 [] [])) [(.tmp 247), (.tmp 248)])), 0, []⟩])))
(.ops [⟨(some 250), none, (.p (.bin .add (.tmp 243) (.c (.int .i64 1)))), 0, []⟩,
⟨(some 243), none, (.p (.mv (.tmp 250))), 0, []⟩])))))))
(.ops [⟨(some 251), none, (.r (.load 1 false (.tmp 2))), 0, []⟩,
⟨(some 252), none, (.h (.call (.c (.fn 23 [] [])) [(.tmp 251), (.c (.int .i64 23)), (.c (.int .i64 0)), (.c (.int .i64 0))])), 0, []⟩])))
(.seq
(.ops [⟨(some 254), none, (.p (.bin .eql (.tmp 21) (.c (.str [100, 101, 108, 101, 116, 101])))), 0, []⟩,
⟨(some 253), none, (.p (.mv (.tmp 254))), 0, []⟩])
(.cond (.tmp 253)
(.seq
(.draw [⟨(some 256), none, (.r (.load 1 false (.tmp 2))), 0, []⟩,
⟨(some 257), none, (.p (.fieldAt 3 (.tmp 3))), 1, []⟩,
⟨(some 258), none, (.r (.load 1 false (.tmp 257))), 2, []⟩,
⟨(some 259), none, (.p (.idxSl 4 (.tmp 258) (.c (.int .i64 0)))), 3, []⟩,
⟨(some 260), none, (.p (.fieldAt 1 (.tmp 259))), 4, []⟩,
⟨(some 261), none, (.r (.load 1 false (.tmp 260))), 5, []⟩,
⟨(some 262), none, (.h (.call (.c (.fn 41 [] [])) [(.tmp 256), (.tmp 261)])), 6, []⟩,
⟨(some 255), none, (.p (.mv (.tmp 262))), 7, []⟩,
⟨(some 263), none, (.p (.ext (.tmp 255) 0)), 8, []⟩,
⟨(some 264), none, (.p (.ext (.tmp 255) 1)), 9, []⟩,
⟨(some 18), none, (.p (.mv (.tmp 263))), 10, []⟩,
⟨(some 19), none, (.p (.mv (.tmp 264))), 11, []⟩])
(.seq
(.ops [⟨(some 265), none, (.p (.fieldAt 3 (.tmp 3))), 0, []⟩,
⟨(some 266), none, (.r (.load 1 false (.tmp 265))), 0, []⟩,
⟨(some 267), none, (.p (.idxSl 4 (.tmp 266) (.c (.int .i64 0)))), 0, []⟩,
⟨(some 268), none, (.p (.fieldAt 0 (.tmp 267))), 0, []⟩,
⟨(some 269), none, (.r (.load 1 false (.tmp 268))), 0, []⟩,
⟨(some 270), none, (.p (.bin .eql (.tmp 269) (.c (.str [105, 110, 100, 101, 120])))), 0, []⟩])
(.cond (.tmp 270)
(.seq
(.draw [⟨(some 271), none, (.r (.load 1 false (.tmp 2))), 0, []⟩,
⟨(some 272), none, (.p (.fieldAt 3 (.tmp 3))), 1, []⟩,
⟨(some 273), none, (.r (.load 1 false (.tmp 272))), 2, []⟩,
⟨(some 274), none, (.p (.idxSl 4 (.tmp 273) (.c (.int .i64 0)))), 3, []⟩,
⟨(some 275), none, (.p (.fieldAt 3 (.tmp 274))), 4, []⟩,
⟨(some 276), none, (.r (.load 1 false (.tmp 275))), 5, []⟩,
⟨(some 277), none, (.p (.idxSl 4 (.tmp 276) (.c (.int .i64 0)))), 6, []⟩,
⟨(some 278), none, (.r (.load 4 true (.tmp 277))), 7, []⟩,
⟨(some 279), none, (.h (.call (.c (.fn 36 [] [])) [(.tmp 271), (.tmp 278)])), 8, []⟩])
(.ops [⟨(some 280), none, (.r (.load 1 false (.tmp 2))), 0, []⟩,
⟨(some 281), none, (.p (.mv (.tmp 18))), 0, []⟩,
⟨(some 282), none, (.p (.mv (.tmp 19))), 0, []⟩,
⟨(some 283), none, (.h (.call (.c (.fn 23 [] [])) [(.tmp 280), (.c (.int .i64 13)), (.tmp 281), (.tmp 282)])), 0, []⟩]))
(.ops [⟨(some 284), none, (.r (.load 1 false (.tmp 2))), 0, []⟩,
⟨(some 285), none, (.p (.mv (.tmp 18))), 0, []⟩,
⟨(some 286), none, (.p (.mv (.tmp 19))), 0, []⟩,
⟨(some 287), none, (.h (.call (.c (.fn 23 [] [])) [(.tmp 284), (.c (.int .i64 14)), (.tmp 285), (.tmp 286)])), 0, []⟩]))))
(.seq
(.seq
(.ops [⟨(some 289), none, (.p (.bin .eql (.tmp 21) (.c (.str [112, 114, 105, 110, 116])))), 0, []⟩,
⟨(some 288), none, (.p (.mv (.tmp 289))), 0, []⟩])
(.cond (.tmp 288)
.skip
(.ops [⟨(some 290), none, (.p (.bin .eql (.tmp 21) (.c (.str [112, 114, 105, 110, 116, 102])))), 0, []⟩,
⟨(some 288), none, (.p (.mv (.tmp 290))), 0, []⟩])))
(.cond (.tmp 288)
(.ops [⟨(some 291), none, (.r (.load 1 false (.tmp 2))), 0, []⟩,
⟨(some 292), none, (.r (.load 4 true (.tmp 3))), 0, []⟩,
⟨(some 293), none, (.h (.call (.c (.fn 43 [] [])) [(.tmp 291), (.tmp 292)])), 0, []⟩])
.skip)))))))))))))))))))))))))))⟩
theorem c21 : Mir.compF Tryz.prog Tryz.f21 = some g21 := by kernel_rfl
/-- (*scribe/code.compiler).text -/
def g22 : Mir.Fn := ⟨44, [],
(.seq
(.ops [⟨(some 5), none, (.p (.mv (.tmp 0))), 0, []⟩,
⟨(some 6), none, (.p (.nilchk (.tmp 5))), 0, []⟩,
⟨(some 7), none, (.p (.fieldAt 0 (.tmp 6))), 0, []⟩,
⟨(some 8), none, (.r (.load 1 false (.tmp 7))), 0, []⟩,
⟨(some 9), none, (.p (.nilchk (.tmp 8))), 0, []⟩,
⟨(some 10), none, (.p (.fieldAt 2 (.tmp 9))), 0, []⟩,
⟨(some 11), none, (.r (.load 1 false (.tmp 10))), 0, []⟩,
⟨(some 12), none, (.p (.mv (.tmp 1))), 0, []⟩,
⟨(some 13), none, (.h (.call (.c (.fn 19 [] [])) [(.tmp 11), (.tmp 12)])), 0, []⟩,
⟨(some 4), none, (.p (.mv (.tmp 13))), 0, []⟩])
(.seq
(.seq
(.ops [⟨(some 14), none, (.p (.mv (.tmp 4))), 0, []⟩,
⟨(some 15), none, (.p (.bin .lss (.tmp 14) (.c (.int .i64 0)))), 0, []⟩])
(.cond (.tmp 15)
(.seq
(.draw [⟨(some 16), none, (.p (.mv (.tmp 0))), 0, []⟩,
⟨(some 17), none, (.p (.nilchk (.tmp 16))), 1, []⟩,
⟨(some 18), none, (.p (.fieldAt 0 (.tmp 17))), 2, []⟩,
⟨(some 19), none, (.r (.load 1 false (.tmp 18))), 3, []⟩,
⟨(some 20), none, (.p (.mv (.tmp 0))), 4, []⟩,
⟨(some 21), none, (.p (.nilchk (.tmp 20))), 5, []⟩,
⟨(some 22), none, (.p (.fieldAt 0 (.tmp 21))), 6, []⟩,
⟨(some 23), none, (.r (.load 1 false (.tmp 22))), 7, []⟩,
⟨(some 24), none, (.p (.nilchk (.tmp 23))), 8, []⟩,
⟨(some 25), none, (.p (.fieldAt 2 (.tmp 24))), 9, []⟩,
⟨(some 26), none, (.r (.load 1 false (.tmp 25))), 10, []⟩,
⟨(some 27), none, (.p (.mv (.tmp 1))), 11, []⟩,
⟨(some 28), none, (.a (.mkSl [(.str [])] 1 1 [(0, (1, (.tmp 27)))])), 12, []⟩,
⟨(some 29), none, (.h (.app 1 16 (.tmp 26) (.tmp 28))), 13, [3]⟩,
⟨(some 30), none, (.p (.nilchk (.tmp 19))), 14, []⟩,
⟨(some 31), none, (.p (.fieldAt 2 (.tmp 30))), 15, []⟩,
⟨none, none, (.h (.store 1 (.tmp 31) (.tmp 29))), 16, []⟩])
(.ops [⟨(some 32), none, (.p (.mv (.tmp 0))), 0, []⟩,
⟨(some 33), none, (.p (.nilchk (.tmp 32))), 0, []⟩,
⟨(some 34), none, (.p (.fieldAt 0 (.tmp 33))), 0, []⟩,
⟨(some 35), none, (.r (.load 1 false (.tmp 34))), 0, []⟩,
⟨(some 36), none, (.p (.nilchk (.tmp 35))), 0, []⟩,
⟨(some 37), none, (.p (.fieldAt 2 (.tmp 36))), 0, []⟩,
⟨(some 38), none, (.r (.load 1 false (.tmp 37))), 0, []⟩,
⟨(some 39), none, (.p (.lenSl (.tmp 38))), 0, []⟩,
⟨(some 40), none, (.p (.bin .sub (.tmp 39) (.c (.int .i64 1)))), 0, []⟩,
⟨(some 4), none, (.p (.mv (.tmp 40))), 0, []⟩]))
.skip))
(.ops [⟨(some 41), none, (.p (.mv (.tmp 0))), 0, []⟩,
⟨(some 42), none, (.p (.mv (.tmp 4))), 0, []⟩,
⟨(some 43), none, (.h (.call (.c (.fn 23 [] [])) [(.tmp 41), (.c (.int .i64 2)), (.tmp 42), (.c (.int .i64 0))])), 0, []⟩])))⟩
theorem c22 : Mir.compF Tryz.prog Tryz.f22 = some g22 := by kernel_rfl
/-- (*scribe/code.compiler).put -/
def g23 : Mir.Fn := ⟨37, [(.tmp 8)],
(.seq
(.ops [⟨(some 8), none, (.p (.mv (.c (.int .i64 0)))), 0, []⟩])
(.seq
(.draw [⟨(some 9), none, (.p (.mv (.tmp 0))), 0, []⟩,
⟨(some 10), none, (.p (.nilchk (.tmp 9))), 1, []⟩,
⟨(some 11), none, (.p (.fieldAt 0 (.tmp 10))), 2, []⟩,
⟨(some 12), none, (.r (.load 1 false (.tmp 11))), 3, []⟩,
⟨(some 13), none, (.p (.mv (.tmp 0))), 4, []⟩,
⟨(some 14), none, (.p (.nilchk (.tmp 13))), 5, []⟩,
⟨(some 15), none, (.p (.fieldAt 0 (.tmp 14))), 6, []⟩,
⟨(some 16), none, (.r (.load 1 false (.tmp 15))), 7, []⟩,
⟨(some 17), none, (.p (.nilchk (.tmp 16))), 8, []⟩,
⟨(some 18), none, (.p (.fieldAt 0 (.tmp 17))), 9, []⟩,
⟨(some 19), none, (.r (.load 1 false (.tmp 18))), 10, []⟩,
⟨(some 20), none, (.p (.mv (.tmp 1))), 11, []⟩,
⟨(some 21), none, (.p (.mv (.tmp 2))), 12, []⟩,
⟨(some 22), none, (.p (.mv (.tmp 3))), 13, []⟩,
⟨(some 23), none, (.p (.build [(.int .i64 0), (.int .i64 0), (.int .i64 0)] [(0, (1, (.tmp 20))), (1, (1, (.tmp 21))), (2, (1, (.tmp 22)))])), 14, []⟩,
⟨(some 24), none, (.a (.mkSl [(.int .i64 0), (.int .i64 0), (.int .i64 0)] 3 1 [(0, (3, (.tmp 23)))])), 15, []⟩,
⟨(some 25), none, (.h (.app 3 24 (.tmp 19) (.tmp 24))), 16, [3]⟩,
⟨(some 26), none, (.p (.nilchk (.tmp 12))), 17, []⟩,
⟨(some 27), none, (.p (.fieldAt 0 (.tmp 26))), 18, []⟩,
⟨none, none, (.h (.store 1 (.tmp 27) (.tmp 25))), 19, []⟩])
(.seq
(.ops [⟨(some 28), none, (.p (.mv (.tmp 0))), 0, []⟩,
⟨(some 29), none, (.p (.nilchk (.tmp 28))), 0, []⟩,
⟨(some 30), none, (.p (.fieldAt 0 (.tmp 29))), 0, []⟩,
⟨(some 31), none, (.r (.load 1 false (.tmp 30))), 0, []⟩,
⟨(some 32), none, (.p (.nilchk (.tmp 31))), 0, []⟩,
⟨(some 33), none, (.p (.fieldAt 0 (.tmp 32))), 0, []⟩,
⟨(some 34), none, (.r (.load 1 false (.tmp 33))), 0, []⟩,
⟨(some 35), none, (.p (.lenSl (.tmp 34))), 0, []⟩,
⟨(some 36), none, (.p (.bin .sub (.tmp 35) (.c (.int .i64 1)))), 0, []⟩,
⟨(some 8), none, (.p (.mv (.tmp 36))), 0, []⟩])
.ret)))⟩
theorem c23 : Mir.compF Tryz.prog Tryz.f23 = some g23 := by kernel_rfl
/-- scribe/code.check -/
def g24 : Mir.Fn := ⟨179, [(.tmp 2), (.tmp 3)],
(.seq
(.ops [⟨(some 2), none, (.p (.mv (.c .nilptr))), 0, []⟩,
⟨(some 3), none, (.p (.mv (.c (.int .i64 0)))), 0, []⟩])
(.seq
(.seq
(.draw [⟨(some 14), none, (.p (.mv (.tmp 0))), 0, []⟩,
⟨(some 15), none, (.p (.nilchk (.tmp 14))), 1, []⟩,
⟨(some 16), none, (.p (.fieldAt 0 (.tmp 15))), 2, []⟩,
⟨(some 17), none, (.r (.load 1 false (.tmp 16))), 3, []⟩,
⟨(some 18), none, (.p (.lenSl (.tmp 17))), 4, []⟩,
⟨(some 19), none, (.p (.bin .gtr (.tmp 18) (.c (.int .i64 20000)))), 5, []⟩,
⟨(some 20), none, (.p (.mv (.tmp 19))), 6, []⟩,
⟨(some 21), (some (20, false)), (.p (.mv (.tmp 0))), 7, []⟩,
⟨(some 22), (some (20, false)), (.p (.nilchk (.tmp 21))), 8, []⟩,
⟨(some 23), (some (20, false)), (.p (.fieldAt 4 (.tmp 22))), 9, []⟩,
⟨(some 24), (some (20, false)), (.r (.load 1 false (.tmp 23))), 10, []⟩,
⟨(some 25), (some (20, false)), (.p (.lenSl (.tmp 24))), 11, []⟩,
⟨(some 26), (some (20, false)), (.p (.mv (.tmp 0))), 12, []⟩,
⟨(some 27), (some (20, false)), (.p (.nilchk (.tmp 26))), 13, []⟩,
⟨(some 28), (some (20, false)), (.p (.fieldAt 5 (.tmp 27))), 14, []⟩,
⟨(some 29), (some (20, false)), (.r (.load 1 false (.tmp 28))), 15, []⟩,
⟨(some 30), (some (20, false)), (.p (.lenSl (.tmp 29))), 16, []⟩,
⟨(some 31), (some (20, false)), (.p (.bin .neq (.tmp 25) (.tmp 30))), 17, []⟩,
⟨(some 32), none, (.p (.pick (.tmp 20) (.c (.bool true)) (.tmp 31))), 18, []⟩,
⟨(some 33), none, (.p (.mv (.tmp 32))), 19, []⟩,
⟨(some 34), (some (33, false)), (.p (.mv (.tmp 0))), 20, []⟩,
⟨(some 35), (some (33, false)), (.p (.nilchk (.tmp 34))), 21, []⟩,
⟨(some 36), (some (33, false)), (.p (.fieldAt 4 (.tmp 35))), 22, []⟩,
⟨(some 37), (some (33, false)), (.r (.load 1 false (.tmp 36))), 23, []⟩,
⟨(some 38), (some (33, false)), (.p (.lenSl (.tmp 37))), 24, []⟩,
⟨(some 39), (some (33, false)), (.r (.load 1 false (.glob 0))), 25, []⟩,
⟨(some 40), (some (33, false)), (.p (.lenSl (.tmp 39))), 26, []⟩,
⟨(some 41), (some (33, false)), (.p (.bin .lss (.tmp 38) (.tmp 40))), 27, []⟩,
⟨(some 42), none, (.p (.pick (.tmp 33) (.c (.bool true)) (.tmp 41))), 28, []⟩])
(.cond (.tmp 42)
(.seq
(.ops [⟨(some 2), none, (.p (.mv (.c .nilptr))), 0, []⟩,
⟨(some 3), none, (.p (.mv (.c (.int .i64 3)))), 0, []⟩])
.ret)
.skip))
(.seq
(.seq
(.ops [⟨(some 43), none, (.r (.load 1 false (.glob 0))), 0, []⟩,
⟨(some 44), none, (.p (.lenSl (.tmp 43))), 0, []⟩,
⟨(some 45), none, (.p (.mv (.c (.int .i64 0)))), 0, []⟩])
(.block 0 (.loop (.seq
(.ops [⟨(some 46), none, (.p (.bin .lss (.tmp 45) (.tmp 44))), 0, []⟩])
(.seq
(.cond (.tmp 46)
.skip
(.exit 0))
(.seq
(.block 1 (.seq
(.ops [⟨(some 47), none, (.p (.mv (.tmp 45))), 0, []⟩,
⟨(some 48), none, (.p (.idxSl 1 (.tmp 43) (.tmp 45))), 0, []⟩,
⟨(some 49), none, (.r (.load 1 false (.tmp 48))), 0, []⟩,
⟨(some 4), none, (.p (.mv (.tmp 47))), 0, []⟩,
⟨(some 5), none, (.p (.mv (.tmp 49))), 0, []⟩])
(.seq
(.ops [⟨(some 50), none, (.p (.mv (.tmp 0))), 0, []⟩,
⟨(some 51), none, (.p (.nilchk (.tmp 50))), 0, []⟩,
⟨(some 52), none, (.p (.fieldAt 4 (.tmp 51))), 0, []⟩,
⟨(some 53), none, (.r (.load 1 false (.tmp 52))), 0, []⟩,
⟨(some 54), none, (.p (.mv (.tmp 4))), 0, []⟩,
⟨(some 55), none, (.p (.idxSl 1 (.tmp 53) (.tmp 54))), 0, []⟩,
⟨(some 56), none, (.r (.load 1 false (.tmp 55))), 0, []⟩,
⟨(some 57), none, (.p (.mv (.tmp 5))), 0, []⟩,
⟨(some 58), none, (.p (.bin .neq (.tmp 56) (.tmp 57))), 0, []⟩,
⟨(some 59), none, (.p (.mv (.tmp 58))), 0, []⟩,
⟨(some 60), (some (59, false)), (.p (.mv (.tmp 0))), 0, []⟩,
⟨(some 61), (some (59, false)), (.p (.nilchk (.tmp 60))), 0, []⟩,
⟨(some 62), (some (59, false)), (.p (.fieldAt 5 (.tmp 61))), 0, []⟩,
⟨(some 63), (some (59, false)), (.r (.load 1 false (.tmp 62))), 0, []⟩,
⟨(some 64), (some (59, false)), (.p (.mv (.tmp 4))), 0, []⟩,
⟨(some 65), (some (59, false)), (.p (.idxSl 1 (.tmp 63) (.tmp 64))), 0, []⟩,
⟨(some 66), (some (59, false)), (.r (.load 1 false (.tmp 65))), 0, []⟩,
⟨(some 67), none, (.p (.pick (.tmp 59) (.c (.bool true)) (.tmp 66))), 0, []⟩])
(.cond (.tmp 67)
(.seq
(.ops [⟨(some 2), none, (.p (.mv (.c .nilptr))), 0, []⟩,
⟨(some 3), none, (.p (.mv (.c (.int .i64 3)))), 0, []⟩])
.ret)
.skip))))
(.ops [⟨(some 68), none, (.p (.bin .add (.tmp 45) (.c (.int .i64 1)))), 0, []⟩,
⟨(some 45), none, (.p (.mv (.tmp 68))), 0, []⟩])))))))
(.seq
(.seq
(.ops [⟨(some 69), none, (.p (.mv (.tmp 0))), 0, []⟩,
⟨(some 70), none, (.p (.nilchk (.tmp 69))), 0, []⟩,
⟨(some 71), none, (.p (.fieldAt 1 (.tmp 70))), 0, []⟩,
⟨(some 72), none, (.r (.load 1 false (.tmp 71))), 0, []⟩,
⟨(some 73), none, (.p (.lenSl (.tmp 72))), 0, []⟩,
⟨(some 74), none, (.p (.mv (.c (.int .i64 0)))), 0, []⟩])
(.block 2 (.loop (.seq
(.ops [⟨(some 75), none, (.p (.bin .lss (.tmp 74) (.tmp 73))), 0, []⟩])
(.seq
(.cond (.tmp 75)
.skip
(.exit 2))
(.seq
(.block 3 (.seq
(.ops [⟨(some 76), none, (.p (.idxSl 1 (.tmp 72) (.tmp 74))), 0, []⟩,
⟨(some 77), none, (.r (.load 1 false (.tmp 76))), 0, []⟩,
⟨(some 7), none, (.p (.mv (.tmp 77))), 0, []⟩])
(.seq
(.ops [⟨(some 78), none, (.p (.mv (.tmp 7))), 0, []⟩,
⟨(some 79), none, (.p (.bin .lss (.tmp 78) (.c (.int .i64 (-4611686018427387903))))), 0, []⟩,
⟨(some 80), none, (.p (.mv (.tmp 79))), 0, []⟩,
⟨(some 81), (some (80, false)), (.p (.mv (.tmp 7))), 0, []⟩,
⟨(some 82), (some (80, false)), (.p (.bin .gtr (.tmp 81) (.c (.int .i64 4611686018427387903)))), 0, []⟩,
⟨(some 83), none, (.p (.pick (.tmp 80) (.c (.bool true)) (.tmp 82))), 0, []⟩])
(.cond (.tmp 83)
(.seq
(.ops [⟨(some 2), none, (.p (.mv (.c .nilptr))), 0, []⟩,
⟨(some 3), none, (.p (.mv (.c (.int .i64 3)))), 0, []⟩])
.ret)
.skip))))
(.ops [⟨(some 84), none, (.p (.bin .add (.tmp 74) (.c (.int .i64 1)))), 0, []⟩,
⟨(some 74), none, (.p (.mv (.tmp 84))), 0, []⟩])))))))
(.seq
(.ops [⟨(some 85), none, (.p (.mv (.tmp 0))), 0, []⟩,
⟨(some 86), none, (.a .mkMap), 0, []⟩,
⟨(some 87), none, (.p (.build [.nilptr, .nilmap, .nilsl, (.bool false)] [(0, (1, (.tmp 85))), (1, (1, (.tmp 86)))])), 0, []⟩,
⟨(some 88), none, (.a (.box (.tmp 87))), 0, []⟩,
⟨(some 8), none, (.p (.mv (.tmp 88))), 0, []⟩])
(.seq
(.seq
(.draw [⟨(some 89), none, (.p (.mv (.tmp 0))), 0, []⟩,
⟨(some 90), none, (.p (.nilchk (.tmp 89))), 1, []⟩,
⟨(some 91), none, (.p (.fieldAt 6 (.tmp 90))), 2, []⟩,
⟨(some 92), none, (.r (.load 1 false (.tmp 91))), 3, []⟩,
⟨(some 93), none, (.p (.mv (.tmp 0))), 4, []⟩,
⟨(some 94), none, (.p (.nilchk (.tmp 93))), 5, []⟩,
⟨(some 95), none, (.p (.fieldAt 7 (.tmp 94))), 6, []⟩,
⟨(some 96), none, (.r (.load 1 false (.tmp 95))), 7, []⟩,
⟨(some 97), none, (.p (.mv (.tmp 0))), 8, []⟩,
⟨(some 98), none, (.p (.nilchk (.tmp 97))), 9, []⟩,
⟨(some 99), none, (.p (.fieldAt 8 (.tmp 98))), 10, []⟩,
⟨(some 100), none, (.r (.load 1 false (.tmp 99))), 11, []⟩,
⟨(some 101), none, (.a (.mkSl [(.int .i64 0)] 1 3 [(0, (1, (.tmp 92))), (1, (1, (.tmp 96))), (2, (1, (.tmp 100)))])), 12, []⟩,
⟨(some 102), none, (.p (.lenSl (.tmp 101))), 13, []⟩,
⟨(some 103), none, (.p (.mv (.c (.int .i64 0)))), 14, []⟩])
(.block 4 (.loop (.seq
(.ops [⟨(some 104), none, (.p (.bin .lss (.tmp 103) (.tmp 102))), 0, []⟩])
(.seq
(.cond (.tmp 104)
.skip
(.exit 4))
(.seq
(.block 5 (.seq
(.ops [⟨(some 105), none, (.p (.mv (.tmp 103))), 0, []⟩,
⟨(some 106), none, (.p (.idxSl 1 (.tmp 101) (.tmp 103))), 0, []⟩,
⟨(some 107), none, (.r (.load 1 false (.tmp 106))), 0, []⟩,
⟨(some 9), none, (.p (.mv (.tmp 105))), 0, []⟩,
⟨(some 10), none, (.p (.mv (.tmp 107))), 0, []⟩])
(.ops [⟨(some 108), none, (.p (.mv (.tmp 8))), 0, []⟩,
⟨(some 109), none, (.p (.mv (.tmp 10))), 0, []⟩,
⟨(some 110), none, (.p (.mv (.tmp 9))), 0, []⟩,
⟨(some 111), none, (.p (.build [(.int .i64 0), (.str []), (.int .i64 0)] [(0, (1, (.tmp 110)))])), 0, []⟩,
⟨(some 112), none, (.h (.call (.c (.fn 44 [] [])) [(.tmp 108), (.tmp 109), (.tmp 111)])), 0, []⟩])))
(.ops [⟨(some 113), none, (.p (.bin .add (.tmp 103) (.c (.int .i64 1)))), 0, []⟩,
⟨(some 103), none, (.p (.mv (.tmp 113))), 0, []⟩])))))))
(.seq
(.seq
(.ops [⟨(some 114), none, (.p (.mv (.tmp 0))), 0, []⟩,
⟨(some 115), none, (.p (.nilchk (.tmp 114))), 0, []⟩,
⟨(some 116), none, (.p (.fieldAt 3 (.tmp 115))), 0, []⟩,
⟨(some 117), none, (.r (.load 1 false (.tmp 116))), 0, []⟩,
⟨(some 118), none, (.p (.lenSl (.tmp 117))), 0, []⟩,
⟨(some 119), none, (.p (.mv (.c (.int .i64 0)))), 0, []⟩])
(.block 6 (.loop (.seq
(.ops [⟨(some 120), none, (.p (.bin .lss (.tmp 119) (.tmp 118))), 0, []⟩])
(.seq
(.cond (.tmp 120)
.skip
(.exit 6))
(.seq
(.block 7 (.seq
(.ops [⟨(some 121), none, (.p (.mv (.tmp 119))), 0, []⟩,
⟨(some 122), none, (.p (.idxSl 2 (.tmp 117) (.tmp 119))), 0, []⟩,
⟨(some 123), none, (.r (.load 2 true (.tmp 122))), 0, []⟩,
⟨(some 12), none, (.a (.alloc [(.int .i64 0), .nilsl])), 0, []⟩,
⟨(some 11), none, (.p (.mv (.tmp 121))), 0, []⟩,
⟨none, none, (.h (.store 2 (.tmp 12) (.tmp 123))), 0, []⟩])
(.ops [⟨(some 124), none, (.p (.mv (.tmp 8))), 0, []⟩,
⟨(some 125), none, (.p (.fieldAt 0 (.tmp 12))), 0, []⟩,
⟨(some 126), none, (.r (.load 1 false (.tmp 125))), 0, []⟩,
⟨(some 127), none, (.p (.mv (.tmp 11))), 0, []⟩,
⟨(some 128), none, (.p (.bin .add (.c (.int .i64 3)) (.tmp 127))), 0, []⟩,
⟨(some 129), none, (.p (.build [(.int .i64 0), (.str []), (.int .i64 0)] [(0, (1, (.tmp 128)))])), 0, []⟩,
⟨(some 130), none, (.h (.call (.c (.fn 44 [] [])) [(.tmp 124), (.tmp 126), (.tmp 129)])), 0, []⟩])))
(.ops [⟨(some 131), none, (.p (.bin .add (.tmp 119) (.c (.int .i64 1)))), 0, []⟩,
⟨(some 119), none, (.p (.mv (.tmp 131))), 0, []⟩])))))))
(.seq
(.block 8 (.loop (.seq
(.seq
(.ops [⟨(some 132), none, (.p (.mv (.tmp 8))), 0, []⟩,
⟨(some 133), none, (.p (.nilchk (.tmp 132))), 0, []⟩,
⟨(some 134), none, (.p (.fieldAt 2 (.tmp 133))), 0, []⟩,
⟨(some 135), none, (.r (.load 1 false (.tmp 134))), 0, []⟩,
⟨(some 136), none, (.p (.lenSl (.tmp 135))), 0, []⟩,
⟨(some 137), none, (.p (.bin .gtr (.tmp 136) (.c (.int .i64 0)))), 0, []⟩,
⟨(some 138), none, (.p (.mv (.tmp 137))), 0, []⟩,
⟨(some 139), (some (138, true)), (.p (.mv (.tmp 8))), 0, []⟩,
⟨(some 140), (some (138, true)), (.p (.nilchk (.tmp 139))), 0, []⟩,
⟨(some 141), (some (138, true)), (.p (.fieldAt 3 (.tmp 140))), 0, []⟩,
⟨(some 142), (some (138, true)), (.r (.load 1 false (.tmp 141))), 0, []⟩,
⟨(some 143), (some (138, true)), (.p (.un .not (.tmp 142))), 0, []⟩,
⟨(some 144), none, (.p (.pick (.tmp 138) (.tmp 143) (.c (.bool false)))), 0, []⟩])
(.cond (.tmp 144)
.skip
(.exit 8)))
(.block 9 (.seq
(.draw [⟨(some 145), none, (.p (.mv (.tmp 8))), 0, []⟩,
⟨(some 146), none, (.p (.nilchk (.tmp 145))), 1, []⟩,
⟨(some 147), none, (.p (.fieldAt 2 (.tmp 146))), 2, []⟩,
⟨(some 148), none, (.r (.load 1 false (.tmp 147))), 3, []⟩,
⟨(some 149), none, (.p (.mv (.tmp 8))), 4, []⟩,
⟨(some 150), none, (.p (.nilchk (.tmp 149))), 5, []⟩,
⟨(some 151), none, (.p (.fieldAt 2 (.tmp 150))), 6, []⟩,
⟨(some 152), none, (.r (.load 1 false (.tmp 151))), 7, []⟩,
⟨(some 153), none, (.p (.lenSl (.tmp 152))), 8, []⟩,
⟨(some 154), none, (.p (.bin .sub (.tmp 153) (.c (.int .i64 1)))), 9, []⟩,
⟨(some 155), none, (.p (.idxSl 1 (.tmp 148) (.tmp 154))), 10, []⟩,
⟨(some 156), none, (.r (.load 1 false (.tmp 155))), 11, []⟩,
⟨(some 13), none, (.p (.mv (.tmp 156))), 12, []⟩])
(.seq
(.draw [⟨(some 157), none, (.p (.mv (.tmp 8))), 0, []⟩,
⟨(some 158), none, (.p (.mv (.tmp 8))), 1, []⟩,
⟨(some 159), none, (.p (.nilchk (.tmp 158))), 2, []⟩,
⟨(some 160), none, (.p (.fieldAt 2 (.tmp 159))), 3, []⟩,
⟨(some 161), none, (.r (.load 1 false (.tmp 160))), 4, []⟩,
⟨(some 162), none, (.p (.mv (.tmp 8))), 5, []⟩,
⟨(some 163), none, (.p (.nilchk (.tmp 162))), 6, []⟩,
⟨(some 164), none, (.p (.fieldAt 2 (.tmp 163))), 7, []⟩,
⟨(some 165), none, (.r (.load 1 false (.tmp 164))), 8, []⟩,
⟨(some 166), none, (.p (.lenSl (.tmp 165))), 9, []⟩,
⟨(some 167), none, (.p (.bin .sub (.tmp 166) (.c (.int .i64 1)))), 10, []⟩,
⟨(some 168), none, (.p (.subSl 1 (.tmp 161) none (some (.tmp 167)))), 11, []⟩,
⟨(some 169), none, (.p (.nilchk (.tmp 157))), 12, []⟩,
⟨(some 170), none, (.p (.fieldAt 2 (.tmp 169))), 13, []⟩,
⟨none, none, (.h (.store 1 (.tmp 170) (.tmp 168))), 14, []⟩])
(.ops [⟨(some 171), none, (.p (.mv (.tmp 8))), 0, []⟩,
⟨(some 172), none, (.p (.mv (.tmp 13))), 0, []⟩,
⟨(some 173), none, (.h (.call (.c (.fn 45 [] [])) [(.tmp 171), (.tmp 172)])), 0, []⟩])))))))
(.seq
(.seq
(.ops [⟨(some 174), none, (.p (.mv (.tmp 8))), 0, []⟩,
⟨(some 175), none, (.p (.nilchk (.tmp 174))), 0, []⟩,
⟨(some 176), none, (.p (.fieldAt 3 (.tmp 175))), 0, []⟩,
⟨(some 177), none, (.r (.load 1 false (.tmp 176))), 0, []⟩])
(.cond (.tmp 177)
(.seq
(.ops [⟨(some 2), none, (.p (.mv (.c .nilptr))), 0, []⟩,
⟨(some 3), none, (.p (.mv (.c (.int .i64 3)))), 0, []⟩])
.ret)
.skip))
(.seq
(.ops [⟨(some 178), none, (.p (.mv (.tmp 8))), 0, []⟩,
⟨(some 2), none, (.p (.mv (.tmp 178))), 0, []⟩,
⟨(some 3), none, (.p (.mv (.c (.int .i64 0)))), 0, []⟩])
.ret))))))))))⟩
theorem c24 : Mir.compF Tryz.prog Tryz.f24 = some g24 := by kernel_rfl
/-- scribe/lex.Lex -/
def g27 : Mir.Fn := ⟨39, [(.tmp 2), (.tmp 3), (.tmp 4)],
(.seq
(.ops [⟨(some 2), none, (.p (.mv (.c .nilsl))), 0, []⟩,
⟨(some 3), none, (.p (.mv (.c (.int .i64 0)))), 0, []⟩,
⟨(some 4), none, (.p (.mv (.c (.int .i64 0)))), 0, []⟩])
(.seq
(.seq
(.ops [⟨(some 7), none, (.p (.mv (.tmp 0))), 0, []⟩,
⟨(some 8), none, (.p (.lenStr (.tmp 7))), 0, []⟩,
⟨(some 9), none, (.p (.bin .gtr (.tmp 8) (.c (.int .i64 4000)))), 0, []⟩])
(.cond (.tmp 9)
(.seq
(.ops [⟨(some 2), none, (.p (.mv (.c .nilsl))), 0, []⟩,
⟨(some 3), none, (.p (.mv (.c (.int .i64 0)))), 0, []⟩,
⟨(some 4), none, (.p (.mv (.c (.int .i64 12)))), 0, []⟩])
.ret)
.skip))
(.seq
(.ops [⟨(some 10), none, (.p (.mv (.tmp 0))), 0, []⟩,
⟨(some 11), none, (.p (.build [(.str []), (.int .i64 0), .nilsl] [(0, (1, (.tmp 10)))])), 0, []⟩,
⟨(some 12), none, (.a (.box (.tmp 11))), 0, []⟩,
⟨(some 5), none, (.p (.mv (.tmp 12))), 0, []⟩])
(.seq
(.block 0 (.loop (.seq
(.seq
(.ops [⟨(some 13), none, (.p (.mv (.tmp 5))), 0, []⟩,
⟨(some 14), none, (.p (.nilchk (.tmp 13))), 0, []⟩,
⟨(some 15), none, (.p (.fieldAt 1 (.tmp 14))), 0, []⟩,
⟨(some 16), none, (.r (.load 1 false (.tmp 15))), 0, []⟩,
⟨(some 17), none, (.p (.mv (.tmp 0))), 0, []⟩,
⟨(some 18), none, (.p (.lenStr (.tmp 17))), 0, []⟩,
⟨(some 19), none, (.p (.bin .lss (.tmp 16) (.tmp 18))), 0, []⟩])
(.cond (.tmp 19)
.skip
(.exit 0)))
(.block 1 (.seq
(.ops [⟨(some 20), none, (.p (.mv (.tmp 5))), 0, []⟩,
⟨(some 21), none, (.h (.call (.c (.fn 48 [] [])) [(.tmp 20)])), 0, []⟩,
⟨(some 6), none, (.p (.mv (.tmp 21))), 0, []⟩])
(.seq
(.ops [⟨(some 22), none, (.p (.mv (.tmp 6))), 0, []⟩,
⟨(some 23), none, (.p (.bin .neq (.tmp 22) (.c (.int .i64 0)))), 0, []⟩])
(.cond (.tmp 23)
(.seq
(.draw [⟨(some 24), none, (.p (.mv (.tmp 5))), 0, []⟩,
⟨(some 25), none, (.p (.nilchk (.tmp 24))), 1, []⟩,
⟨(some 26), none, (.p (.fieldAt 1 (.tmp 25))), 2, []⟩,
⟨(some 27), none, (.r (.load 1 false (.tmp 26))), 3, []⟩,
⟨(some 28), none, (.p (.mv (.tmp 6))), 4, []⟩,
⟨(some 2), none, (.p (.mv (.c .nilsl))), 5, []⟩,
⟨(some 3), none, (.p (.mv (.tmp 27))), 6, []⟩,
⟨(some 4), none, (.p (.mv (.tmp 28))), 7, []⟩])
.ret)
.skip)))))))
(.seq
(.ops [⟨(some 29), none, (.p (.mv (.tmp 5))), 0, []⟩,
⟨(some 30), none, (.p (.mv (.tmp 5))), 0, []⟩,
⟨(some 31), none, (.p (.nilchk (.tmp 30))), 0, []⟩,
⟨(some 32), none, (.p (.fieldAt 1 (.tmp 31))), 0, []⟩,
⟨(some 33), none, (.r (.load 1 false (.tmp 32))), 0, []⟩,
⟨(some 34), none, (.h (.call (.c (.fn 49 [] [])) [(.tmp 29), (.c (.int .i64 0)), (.c (.str [])), (.tmp 33)])), 0, []⟩])
(.seq
(.ops [⟨(some 35), none, (.p (.mv (.tmp 5))), 0, []⟩,
⟨(some 36), none, (.p (.nilchk (.tmp 35))), 0, []⟩,
⟨(some 37), none, (.p (.fieldAt 2 (.tmp 36))), 0, []⟩,
⟨(some 38), none, (.r (.load 1 false (.tmp 37))), 0, []⟩,
⟨(some 2), none, (.p (.mv (.tmp 38))), 0, []⟩,
⟨(some 3), none, (.p (.mv (.c (.int .i64 0)))), 0, []⟩,
⟨(some 4), none, (.p (.mv (.c (.int .i64 0)))), 0, []⟩])
.ret))))))⟩
theorem c27 : Mir.compF Tryz.prog Tryz.f27 = some g27 := by kernel_rfl
/-- scribe/parse.node -/
def g28 : Mir.Fn := ⟨8, [(.cell 4 4 true)],
(.seq
(.ops [⟨(some 4), none, (.a (.alloc [(.str []), (.str []), (.int .i64 0), .nilsl])), 0, []⟩])
(.seq
(.ops [⟨(some 5), none, (.p (.mv (.tmp 0))), 0, []⟩,
⟨(some 6), none, (.p (.mv (.tmp 1))), 0, []⟩,
⟨(some 7), none, (.p (.build [(.str []), (.str []), (.int .i64 0), .nilsl] [(0, (1, (.tmp 5))), (3, (1, (.tmp 6)))])), 0, []⟩,
⟨none, none, (.h (.store 4 (.tmp 4) (.tmp 7))), 0, []⟩])
.ret))⟩
theorem c28 : Mir.compF Tryz.prog Tryz.f28 = some g28 := by kernel_rfl
/-- (*scribe/parse.parser).at -/
def g29 : Mir.Fn := ⟨22, [(.tmp 4)],
(.seq
(.ops [⟨(some 4), none, (.p (.mv (.c (.bool false)))), 0, []⟩])
(.seq
(.ops [⟨(some 6), none, (.p (.mv (.tmp 0))), 0, []⟩,
⟨(some 7), none, (.h (.call (.c (.fn 30 [] [])) [(.tmp 6)])), 0, []⟩,
⟨(some 5), none, (.a (.alloc [(.int .i64 0), (.str []), (.int .i64 0)])), 0, []⟩,
⟨none, none, (.h (.store 3 (.tmp 5) (.tmp 7))), 0, []⟩])
(.seq
(.ops [⟨(some 8), none, (.p (.fieldAt 0 (.tmp 5))), 0, []⟩,
⟨(some 9), none, (.r (.load 1 false (.tmp 8))), 0, []⟩,
⟨(some 10), none, (.p (.bin .eql (.tmp 9) (.c (.int .i64 8)))), 0, []⟩,
⟨(some 11), none, (.p (.mv (.tmp 10))), 0, []⟩,
⟨(some 12), (some (11, false)), (.p (.fieldAt 0 (.tmp 5))), 0, []⟩,
⟨(some 13), (some (11, false)), (.r (.load 1 false (.tmp 12))), 0, []⟩,
⟨(some 14), (some (11, false)), (.p (.bin .eql (.tmp 13) (.c (.int .i64 7)))), 0, []⟩,
⟨(some 15), none, (.p (.pick (.tmp 11) (.c (.bool true)) (.tmp 14))), 0, []⟩,
⟨(some 16), none, (.p (.mv (.tmp 15))), 0, []⟩,
⟨(some 17), (some (16, true)), (.p (.mv (.tmp 1))), 0, []⟩,
⟨(some 18), (some (16, true)), (.p (.fieldAt 1 (.tmp 5))), 0, []⟩,
⟨(some 19), (some (16, true)), (.r (.load 1 false (.tmp 18))), 0, []⟩,
⟨(some 20), (some (16, true)), (.h (.call (.c (.fn 50 [] [])) [(.tmp 17), (.tmp 19)])), 0, []⟩,
⟨(some 21), none, (.p (.pick (.tmp 16) (.tmp 20) (.c (.bool false)))), 0, []⟩,
⟨(some 4), none, (.p (.mv (.tmp 21))), 0, []⟩])
.ret)))⟩
theorem c29 : Mir.compF Tryz.prog Tryz.f29 = some g29 := by kernel_rfl
/-- (*scribe/parse.parser).cur -/
def g30 : Mir.Fn := ⟨19, [(.cell 2 3 true)],
(.seq
(.ops [⟨(some 2), none, (.a (.alloc [(.int .i64 0), (.str []), (.int .i64 0)])), 0, []⟩])
(.seq
(.seq
(.ops [⟨(some 3), none, (.p (.mv (.tmp 0))), 0, []⟩,
⟨(some 4), none, (.p (.nilchk (.tmp 3))), 0, []⟩,
⟨(some 5), none, (.p (.fieldAt 4 (.tmp 4))), 0, []⟩,
⟨(some 6), none, (.r (.load 1 false (.tmp 5))), 0, []⟩,
⟨(some 7), none, (.p (.bin .neq (.tmp 6) (.c (.int .i64 0)))), 0, []⟩])
(.cond (.tmp 7)
(.seq
(.ops [⟨(some 8), none, (.p (.build [(.int .i64 0), (.str []), (.int .i64 0)] [])), 0, []⟩,
⟨none, none, (.h (.store 3 (.tmp 2) (.tmp 8))), 0, []⟩])
.ret)
.skip))
(.seq
(.draw [⟨(some 9), none, (.p (.mv (.tmp 0))), 0, []⟩,
⟨(some 10), none, (.p (.nilchk (.tmp 9))), 1, []⟩,
⟨(some 11), none, (.p (.fieldAt 0 (.tmp 10))), 2, []⟩,
⟨(some 12), none, (.r (.load 1 false (.tmp 11))), 3, []⟩,
⟨(some 13), none, (.p (.mv (.tmp 0))), 4, []⟩,
⟨(some 14), none, (.p (.nilchk (.tmp 13))), 5, []⟩,
⟨(some 15), none, (.p (.fieldAt 1 (.tmp 14))), 6, []⟩,
⟨(some 16), none, (.r (.load 1 false (.tmp 15))), 7, []⟩,
⟨(some 17), none, (.p (.idxSl 3 (.tmp 12) (.tmp 16))), 8, []⟩,
⟨(some 18), none, (.r (.load 3 true (.tmp 17))), 9, []⟩,
⟨none, none, (.h (.store 3 (.tmp 2) (.tmp 18))), 10, []⟩])
.ret)))⟩
theorem c30 : Mir.compF Tryz.prog Tryz.f30 = some g30 := by kernel_rfl
/-- (*scribe/parse.parser).step -/
def g31 : Mir.Fn := ⟨27, [],
(.seq
(.draw [⟨(some 2), none, (.p (.mv (.tmp 0))), 0, []⟩,
⟨(some 3), none, (.p (.nilchk (.tmp 2))), 1, []⟩,
⟨(some 4), none, (.p (.fieldAt 4 (.tmp 3))), 2, []⟩,
⟨(some 5), none, (.r (.load 1 false (.tmp 4))), 3, []⟩,
⟨(some 6), none, (.p (.bin .eql (.tmp 5) (.c (.int .i64 0)))), 4, []⟩,
⟨(some 7), none, (.p (.mv (.tmp 6))), 5, []⟩,
⟨(some 8), (some (7, true)), (.p (.mv (.tmp 0))), 6, []⟩,
⟨(some 9), (some (7, true)), (.p (.nilchk (.tmp 8))), 7, []⟩,
⟨(some 10), (some (7, true)), (.p (.fieldAt 1 (.tmp 9))), 8, []⟩,
⟨(some 11), (some (7, true)), (.r (.load 1 false (.tmp 10))), 9, []⟩,
⟨(some 12), (some (7, true)), (.p (.mv (.tmp 0))), 10, []⟩,
⟨(some 13), (some (7, true)), (.p (.nilchk (.tmp 12))), 11, []⟩,
⟨(some 14), (some (7, true)), (.p (.fieldAt 0 (.tmp 13))), 12, []⟩,
⟨(some 15), (some (7, true)), (.r (.load 1 false (.tmp 14))), 13, []⟩,
⟨(some 16), (some (7, true)), (.p (.lenSl (.tmp 15))), 14, []⟩,
⟨(some 17), (some (7, true)), (.p (.bin .sub (.tmp 16) (.c (.int .i64 1)))), 15, []⟩,
⟨(some 18), (some (7, true)), (.p (.bin .lss (.tmp 11) (.tmp 17))), 16, []⟩,
⟨(some 19), none, (.p (.pick (.tmp 7) (.tmp 18) (.c (.bool false)))), 17, []⟩])
(.cond (.tmp 19)
(.ops [⟨(some 20), none, (.p (.mv (.tmp 0))), 0, []⟩,
⟨(some 21), none, (.p (.nilchk (.tmp 20))), 0, []⟩,
⟨(some 22), none, (.p (.fieldAt 1 (.tmp 21))), 0, []⟩,
⟨(some 23), none, (.r (.load 1 false (.tmp 22))), 0, []⟩,
⟨(some 24), none, (.p (.bin .add (.tmp 23) (.c (.int .i64 1)))), 0, []⟩,
⟨(some 25), none, (.p (.nilchk (.tmp 20))), 0, []⟩,
⟨(some 26), none, (.p (.fieldAt 1 (.tmp 25))), 0, []⟩,
⟨none, none, (.h (.store 1 (.tmp 26) (.tmp 24))), 0, []⟩])
.skip))⟩
theorem c31 : Mir.compF Tryz.prog Tryz.f31 = some g31 := by kernel_rfl
/-- (*scribe/parse.parser).item -/
def g32 : Mir.Fn := ⟨122, [(.cell 2 4 true)],
(.seq
(.ops [⟨(some 2), none, (.a (.alloc [(.str []), (.str []), (.int .i64 0), .nilsl])), 0, []⟩])
(.seq
(.block 0 (.seq
(.ops [⟨(some 7), none, (.p (.mv (.tmp 0))), 0, []⟩,
⟨(some 8), none, (.h (.call (.c (.fn 51 [] [])) [(.tmp 7), (.c (.str [66, 69, 71, 73, 78]))])), 0, []⟩,
⟨(some 6), none, (.p (.mv (.tmp 8))), 0, []⟩])
(.cond (.tmp 6)
(.seq
(.ops [⟨(some 9), none, (.p (.mv (.tmp 0))), 0, []⟩,
⟨(some 10), none, (.h (.call (.c (.fn 52 [] [])) [(.tmp 9)])), 0, []⟩,
⟨(some 11), none, (.a (.mkSl [(.str []), (.str []), (.int .i64 0), .nilsl] 4 1 [(0, (4, (.tmp 10)))])), 0, []⟩,
⟨(some 12), none, (.h (.call (.c (.fn 28 [] [])) [(.c (.str [98, 101, 103, 105, 110])), (.tmp 11)])), 0, []⟩,
⟨none, none, (.h (.store 4 (.tmp 2) (.tmp 12))), 0, []⟩])
.ret)
(.seq
(.ops [⟨(some 14), none, (.p (.mv (.tmp 0))), 0, []⟩,
⟨(some 15), none, (.h (.call (.c (.fn 51 [] [])) [(.tmp 14), (.c (.str [69, 78, 68]))])), 0, []⟩,
⟨(some 13), none, (.p (.mv (.tmp 15))), 0, []⟩])
(.cond (.tmp 13)
(.seq
(.ops [⟨(some 16), none, (.p (.mv (.tmp 0))), 0, []⟩,
⟨(some 17), none, (.h (.call (.c (.fn 52 [] [])) [(.tmp 16)])), 0, []⟩,
⟨(some 18), none, (.a (.mkSl [(.str []), (.str []), (.int .i64 0), .nilsl] 4 1 [(0, (4, (.tmp 17)))])), 0, []⟩,
⟨(some 19), none, (.h (.call (.c (.fn 28 [] [])) [(.c (.str [101, 110, 100])), (.tmp 18)])), 0, []⟩,
⟨none, none, (.h (.store 4 (.tmp 2) (.tmp 19))), 0, []⟩])
.ret)
(.seq
(.ops [⟨(some 21), none, (.p (.mv (.tmp 0))), 0, []⟩,
⟨(some 22), none, (.h (.call (.c (.fn 51 [] [])) [(.tmp 21), (.c (.str [102, 117, 110, 99, 116, 105, 111, 110]))])), 0, []⟩,
⟨(some 20), none, (.p (.mv (.tmp 22))), 0, []⟩])
(.cond (.tmp 20)
(.seq
(.ops [⟨(some 23), none, (.p (.mv (.tmp 0))), 0, []⟩,
⟨(some 24), none, (.a (.mkSl [(.int .i64 0)] 1 2 [(0, (1, (.c (.int .i64 5)))), (1, (1, (.c (.int .i64 6))))])), 0, []⟩,
⟨(some 25), none, (.h (.call (.c (.fn 54 [] [])) [(.tmp 23), (.tmp 24)])), 0, []⟩,
⟨(some 26), none, (.h (.call (.c (.fn 53 [] [])) [(.c (.str [102, 117, 110, 99])), (.tmp 25), (.c .nilsl)])), 0, []⟩,
⟨(some 3), none, (.a (.alloc [(.str []), (.str []), (.int .i64 0), .nilsl])), 0, []⟩,
⟨none, none, (.h (.store 4 (.tmp 3) (.tmp 26))), 0, []⟩])
(.seq
(.ops [⟨(some 27), none, (.p (.mv (.tmp 0))), 0, []⟩,
⟨(some 28), none, (.h (.call (.c (.fn 55 [] [])) [(.tmp 27), (.c (.str [40]))])), 0, []⟩])
(.seq
(.ops [⟨(some 29), none, (.p (.mv (.tmp 0))), 0, []⟩,
⟨(some 30), none, (.h (.call (.c (.fn 56 [] [])) [(.tmp 29)])), 0, []⟩])
(.seq
(.block 1 (.loop (.seq
(.seq
(.ops [⟨(some 31), none, (.p (.mv (.tmp 0))), 0, []⟩,
⟨(some 32), none, (.p (.nilchk (.tmp 31))), 0, []⟩,
⟨(some 33), none, (.p (.fieldAt 4 (.tmp 32))), 0, []⟩,
⟨(some 34), none, (.r (.load 1 false (.tmp 33))), 0, []⟩,
⟨(some 35), none, (.p (.bin .eql (.tmp 34) (.c (.int .i64 0)))), 0, []⟩,
⟨(some 36), none, (.p (.mv (.tmp 35))), 0, []⟩,
⟨(some 37), (some (36, true)), (.p (.mv (.tmp 0))), 0, []⟩,
⟨(some 38), (some (36, true)), (.a (.mkSl [(.str [])] 1 1 [(0, (1, (.c (.str [41]))))])), 0, []⟩,
⟨(some 39), (some (36, true)), (.h (.call (.c (.fn 29 [] [])) [(.tmp 37), (.tmp 38)])), 0, []⟩,
⟨(some 40), (some (36, true)), (.p (.un .not (.tmp 39))), 0, []⟩,
⟨(some 41), none, (.p (.pick (.tmp 36) (.tmp 40) (.c (.bool false)))), 0, []⟩])
(.cond (.tmp 41)
.skip
(.exit 1)))
(.block 2 (.seq
(.seq
(.ops [⟨(some 42), none, (.p (.fieldAt 3 (.tmp 3))), 0, []⟩,
⟨(some 43), none, (.r (.load 1 false (.tmp 42))), 0, []⟩,
⟨(some 44), none, (.p (.lenSl (.tmp 43))), 0, []⟩,
⟨(some 45), none, (.p (.bin .gtr (.tmp 44) (.c (.int .i64 0)))), 0, []⟩])
(.cond (.tmp 45)
(.seq
(.ops [⟨(some 46), none, (.p (.mv (.tmp 0))), 0, []⟩,
⟨(some 47), none, (.h (.call (.c (.fn 55 [] [])) [(.tmp 46), (.c (.str [44]))])), 0, []⟩])
(.ops [⟨(some 48), none, (.p (.mv (.tmp 0))), 0, []⟩,
⟨(some 49), none, (.h (.call (.c (.fn 56 [] [])) [(.tmp 48)])), 0, []⟩]))
.skip))
(.seq
(.draw [⟨(some 50), none, (.p (.fieldAt 3 (.tmp 3))), 0, []⟩,
⟨(some 51), none, (.r (.load 1 false (.tmp 50))), 1, []⟩,
⟨(some 52), none, (.p (.mv (.tmp 0))), 2, []⟩,
⟨(some 53), none, (.a (.mkSl [(.int .i64 0)] 1 1 [(0, (1, (.c (.int .i64 5))))])), 3, []⟩,
⟨(some 54), none, (.h (.call (.c (.fn 54 [] [])) [(.tmp 52), (.tmp 53)])), 4, [1]⟩,
⟨(some 55), none, (.h (.call (.c (.fn 53 [] [])) [(.c (.str [112, 97, 114, 97, 109])), (.tmp 54), (.c .nilsl)])), 5, [1]⟩,
⟨(some 56), none, (.a (.mkSl [(.str []), (.str []), (.int .i64 0), .nilsl] 4 1 [(0, (4, (.tmp 55)))])), 6, []⟩,
⟨(some 57), none, (.h (.app 4 64 (.tmp 51) (.tmp 56))), 7, []⟩,
⟨(some 58), none, (.p (.fieldAt 3 (.tmp 3))), 8, []⟩,
⟨none, none, (.h (.store 1 (.tmp 58) (.tmp 57))), 9, []⟩])
(.ops [⟨(some 59), none, (.p (.mv (.tmp 0))), 0, []⟩,
⟨(some 60), none, (.h (.call (.c (.fn 56 [] [])) [(.tmp 59)])), 0, []⟩])))))))
(.seq
(.ops [⟨(some 61), none, (.p (.mv (.tmp 0))), 0, []⟩,
⟨(some 62), none, (.h (.call (.c (.fn 55 [] [])) [(.tmp 61), (.c (.str [41]))])), 0, []⟩])
(.seq
(.ops [⟨(some 63), none, (.p (.mv (.tmp 0))), 0, []⟩,
⟨(some 64), none, (.h (.call (.c (.fn 56 [] [])) [(.tmp 63)])), 0, []⟩])
(.seq
(.draw [⟨(some 65), none, (.p (.fieldAt 3 (.tmp 3))), 0, []⟩,
⟨(some 66), none, (.r (.load 1 false (.tmp 65))), 1, []⟩,
⟨(some 67), none, (.p (.mv (.tmp 0))), 2, []⟩,
⟨(some 68), none, (.h (.call (.c (.fn 52 [] [])) [(.tmp 67)])), 3, [1]⟩,
⟨(some 69), none, (.a (.mkSl [(.str []), (.str []), (.int .i64 0), .nilsl] 4 1 [(0, (4, (.tmp 68)))])), 4, []⟩,
⟨(some 70), none, (.h (.app 4 64 (.tmp 66) (.tmp 69))), 5, []⟩,
⟨(some 71), none, (.p (.fieldAt 3 (.tmp 3))), 6, []⟩,
⟨none, none, (.h (.store 1 (.tmp 71) (.tmp 70))), 7, []⟩])
(.seq
(.ops [⟨(some 72), none, (.r (.load 4 true (.tmp 3))), 0, []⟩,
⟨none, none, (.h (.store 4 (.tmp 2) (.tmp 72))), 0, []⟩])
.ret))))))))
(.seq
(.ops [⟨(some 74), none, (.p (.mv (.tmp 0))), 0, []⟩,
⟨(some 75), none, (.a (.mkSl [(.str [])] 1 1 [(0, (1, (.c (.str [123]))))])), 0, []⟩,
⟨(some 76), none, (.h (.call (.c (.fn 29 [] [])) [(.tmp 74), (.tmp 75)])), 0, []⟩,
⟨(some 73), none, (.p (.mv (.tmp 76))), 0, []⟩])
(.cond (.tmp 73)
(.seq
(.ops [⟨(some 77), none, (.h (.call (.c (.fn 28 [] [])) [(.c (.str [97, 108, 119, 97, 121, 115])), (.c .nilsl)])), 0, []⟩,
⟨(some 78), none, (.p (.mv (.tmp 0))), 0, []⟩,
⟨(some 79), none, (.h (.call (.c (.fn 52 [] [])) [(.tmp 78)])), 0, []⟩,
⟨(some 80), none, (.a (.mkSl [(.str []), (.str []), (.int .i64 0), .nilsl] 4 2 [(0, (4, (.tmp 77))), (4, (4, (.tmp 79)))])), 0, []⟩,
⟨(some 81), none, (.h (.call (.c (.fn 28 [] [])) [(.c (.str [114, 117, 108, 101])), (.tmp 80)])), 0, []⟩,
⟨none, none, (.h (.store 4 (.tmp 2) (.tmp 81))), 0, []⟩])
.ret)
.skip)))))))))
(.seq
(.ops [⟨(some 82), none, (.p (.mv (.tmp 0))), 0, []⟩,
⟨(some 83), none, (.h (.call (.c (.fn 57 [] [])) [(.tmp 82)])), 0, []⟩,
⟨(some 84), none, (.a (.mkSl [(.str []), (.str []), (.int .i64 0), .nilsl] 4 1 [(0, (4, (.tmp 83)))])), 0, []⟩,
⟨(some 85), none, (.h (.call (.c (.fn 28 [] [])) [(.c (.str [114, 117, 108, 101])), (.tmp 84)])), 0, []⟩,
⟨(some 4), none, (.a (.alloc [(.str []), (.str []), (.int .i64 0), .nilsl])), 0, []⟩,
⟨none, none, (.h (.store 4 (.tmp 4) (.tmp 85))), 0, []⟩])
(.seq
(.seq
(.ops [⟨(some 86), none, (.p (.mv (.tmp 0))), 0, []⟩,
⟨(some 87), none, (.a (.mkSl [(.str [])] 1 1 [(0, (1, (.c (.str [123]))))])), 0, []⟩,
⟨(some 88), none, (.h (.call (.c (.fn 29 [] [])) [(.tmp 86), (.tmp 87)])), 0, []⟩])
(.cond (.tmp 88)
(.seq
(.draw [⟨(some 89), none, (.p (.fieldAt 3 (.tmp 4))), 0, []⟩,
⟨(some 90), none, (.r (.load 1 false (.tmp 89))), 1, []⟩,
⟨(some 91), none, (.p (.mv (.tmp 0))), 2, []⟩,
⟨(some 92), none, (.h (.call (.c (.fn 52 [] [])) [(.tmp 91)])), 3, [1]⟩,
⟨(some 93), none, (.a (.mkSl [(.str []), (.str []), (.int .i64 0), .nilsl] 4 1 [(0, (4, (.tmp 92)))])), 4, []⟩,
⟨(some 94), none, (.h (.app 4 64 (.tmp 90) (.tmp 93))), 5, []⟩,
⟨(some 95), none, (.p (.fieldAt 3 (.tmp 4))), 6, []⟩,
⟨none, none, (.h (.store 1 (.tmp 95) (.tmp 94))), 7, []⟩])
(.seq
(.ops [⟨(some 96), none, (.r (.load 4 true (.tmp 4))), 0, []⟩,
⟨none, none, (.h (.store 4 (.tmp 2) (.tmp 96))), 0, []⟩])
.ret))
.skip))
(.seq
(.seq
(.ops [⟨(some 97), none, (.p (.mv (.tmp 0))), 0, []⟩,
⟨(some 98), none, (.h (.call (.c (.fn 30 [] [])) [(.tmp 97)])), 0, []⟩,
⟨(some 5), none, (.a (.alloc [(.int .i64 0), (.str []), (.int .i64 0)])), 0, []⟩,
⟨none, none, (.h (.store 3 (.tmp 5) (.tmp 98))), 0, []⟩])
(.seq
(.ops [⟨(some 99), none, (.p (.fieldAt 0 (.tmp 5))), 0, []⟩,
⟨(some 100), none, (.r (.load 1 false (.tmp 99))), 0, []⟩,
⟨(some 101), none, (.p (.bin .neq (.tmp 100) (.c (.int .i64 1)))), 0, []⟩,
⟨(some 102), none, (.p (.mv (.tmp 101))), 0, []⟩,
⟨(some 103), (some (102, true)), (.p (.fieldAt 0 (.tmp 5))), 0, []⟩,
⟨(some 104), (some (102, true)), (.r (.load 1 false (.tmp 103))), 0, []⟩,
⟨(some 105), (some (102, true)), (.p (.bin .neq (.tmp 104) (.c (.int .i64 0)))), 0, []⟩,
⟨(some 106), none, (.p (.pick (.tmp 102) (.tmp 105) (.c (.bool false)))), 0, []⟩,
⟨(some 107), none, (.p (.mv (.tmp 106))), 0, []⟩,
⟨(some 108), (some (107, true)), (.p (.mv (.tmp 0))), 0, []⟩,
⟨(some 109), (some (107, true)), (.a (.mkSl [(.str [])] 1 1 [(0, (1, (.c (.str [59]))))])), 0, []⟩,
⟨(some 110), (some (107, true)), (.h (.call (.c (.fn 29 [] [])) [(.tmp 108), (.tmp 109)])), 0, []⟩,
⟨(some 111), (some (107, true)), (.p (.un .not (.tmp 110))), 0, []⟩,
⟨(some 112), none, (.p (.pick (.tmp 107) (.tmp 111) (.c (.bool false)))), 0, []⟩])
(.cond (.tmp 112)
(.ops [⟨(some 113), none, (.p (.mv (.tmp 0))), 0, []⟩,
⟨(some 114), none, (.h (.call (.c (.fn 58 [] [])) [(.tmp 113)])), 0, []⟩])
.skip)))
(.seq
(.draw [⟨(some 115), none, (.p (.fieldAt 3 (.tmp 4))), 0, []⟩,
⟨(some 116), none, (.r (.load 1 false (.tmp 115))), 1, []⟩,
⟨(some 117), none, (.h (.call (.c (.fn 28 [] [])) [(.c (.str [100, 101, 102, 97, 117, 108, 116])), (.c .nilsl)])), 2, [1]⟩,
⟨(some 118), none, (.a (.mkSl [(.str []), (.str []), (.int .i64 0), .nilsl] 4 1 [(0, (4, (.tmp 117)))])), 3, []⟩,
⟨(some 119), none, (.h (.app 4 64 (.tmp 116) (.tmp 118))), 4, []⟩,
⟨(some 120), none, (.p (.fieldAt 3 (.tmp 4))), 5, []⟩,
⟨none, none, (.h (.store 1 (.tmp 120) (.tmp 119))), 6, []⟩])
(.seq
(.ops [⟨(some 121), none, (.r (.load 4 true (.tmp 4))), 0, []⟩,
⟨none, none, (.h (.store 4 (.tmp 2) (.tmp 121))), 0, []⟩])
.ret)))))))⟩
theorem c32 : Mir.compF Tryz.prog Tryz.f32 = some g32 := by kernel_rfl
/-- (*scribe/resolve.resolver).collect -/
def g33 : Mir.Fn := ⟨94, [],
(.seq
(.ops [⟨(some 11), none, (.p (.mv (.tmp 1))), 0, []⟩,
⟨(some 12), none, (.p (.lenSl (.tmp 11))), 0, []⟩,
⟨(some 13), none, (.p (.mv (.c (.int .i64 0)))), 0, []⟩])
(.block 0 (.loop (.seq
(.ops [⟨(some 14), none, (.p (.bin .lss (.tmp 13) (.tmp 12))), 0, []⟩])
(.seq
(.cond (.tmp 14)
.skip
(.exit 0))
(.seq
(.block 1 (.seq
(.ops [⟨(some 15), none, (.p (.idxSl 4 (.tmp 11) (.tmp 13))), 0, []⟩,
⟨(some 16), none, (.r (.load 4 true (.tmp 15))), 0, []⟩,
⟨(some 5), none, (.a (.alloc [(.str []), (.str []), (.int .i64 0), .nilsl])), 0, []⟩,
⟨none, none, (.h (.store 4 (.tmp 5) (.tmp 16))), 0, []⟩])
(.seq
(.seq
(.ops [⟨(some 17), none, (.p (.fieldAt 0 (.tmp 5))), 0, []⟩,
⟨(some 18), none, (.r (.load 1 false (.tmp 17))), 0, []⟩,
⟨(some 19), none, (.p (.bin .neq (.tmp 18) (.c (.str [102, 117, 110, 99])))), 0, []⟩])
(.cond (.tmp 19)
(.exit 1)
.skip))
(.seq
(.draw [⟨(some 20), none, (.p (.fieldAt 1 (.tmp 5))), 0, []⟩,
⟨(some 21), none, (.r (.load 1 false (.tmp 20))), 1, []⟩,
⟨(some 22), none, (.p (.fieldAt 3 (.tmp 5))), 2, []⟩,
⟨(some 23), none, (.r (.load 1 false (.tmp 22))), 3, []⟩,
⟨(some 24), none, (.p (.fieldAt 3 (.tmp 5))), 4, []⟩,
⟨(some 25), none, (.r (.load 1 false (.tmp 24))), 5, []⟩,
⟨(some 26), none, (.p (.lenSl (.tmp 25))), 6, []⟩,
⟨(some 27), none, (.p (.bin .sub (.tmp 26) (.c (.int .i64 1)))), 7, []⟩,
⟨(some 28), none, (.p (.idxSl 4 (.tmp 23) (.tmp 27))), 8, []⟩,
⟨(some 29), none, (.r (.load 4 true (.tmp 28))), 9, []⟩,
⟨(some 30), none, (.p (.build [(.str []), .nilsl, .nilsl, (.str []), (.str []), (.int .i64 0), .nilsl] [(0, (1, (.tmp 21))), (3, (4, (.tmp 29)))])), 10, []⟩,
⟨(some 6), none, (.a (.alloc [(.str []), .nilsl, .nilsl, (.str []), (.str []), (.int .i64 0), .nilsl])), 11, []⟩,
⟨none, none, (.h (.store 7 (.tmp 6) (.tmp 30))), 12, []⟩])
(.seq
(.seq
(.ops [⟨(some 31), none, (.p (.fieldAt 3 (.tmp 5))), 0, []⟩,
⟨(some 32), none, (.r (.load 1 false (.tmp 31))), 0, []⟩,
⟨(some 33), none, (.p (.fieldAt 3 (.tmp 5))), 0, []⟩,
⟨(some 34), none, (.r (.load 1 false (.tmp 33))), 0, []⟩,
⟨(some 35), none, (.p (.lenSl (.tmp 34))), 0, []⟩,
⟨(some 36), none, (.p (.bin .sub (.tmp 35) (.c (.int .i64 1)))), 0, []⟩,
⟨(some 37), none, (.p (.subSl 4 (.tmp 32) none (some (.tmp 36)))), 0, []⟩,
⟨(some 38), none, (.p (.lenSl (.tmp 37))), 0, []⟩,
⟨(some 39), none, (.p (.mv (.c (.int .i64 0)))), 0, []⟩])
(.block 2 (.loop (.seq
(.ops [⟨(some 40), none, (.p (.bin .lss (.tmp 39) (.tmp 38))), 0, []⟩])
(.seq
(.cond (.tmp 40)
.skip
(.exit 2))
(.seq
(.block 3 (.seq
(.ops [⟨(some 41), none, (.p (.idxSl 4 (.tmp 37) (.tmp 39))), 0, []⟩,
⟨(some 42), none, (.r (.load 4 true (.tmp 41))), 0, []⟩,
⟨(some 8), none, (.a (.alloc [(.str []), (.str []), (.int .i64 0), .nilsl])), 0, []⟩,
⟨none, none, (.h (.store 4 (.tmp 8) (.tmp 42))), 0, []⟩])
(.ops [⟨(some 43), none, (.p (.fieldAt 1 (.tmp 6))), 0, []⟩,
⟨(some 44), none, (.r (.load 1 false (.tmp 43))), 0, []⟩,
⟨(some 45), none, (.p (.fieldAt 1 (.tmp 8))), 0, []⟩,
⟨(some 46), none, (.r (.load 1 false (.tmp 45))), 0, []⟩,
⟨(some 47), none, (.a (.mkSl [(.str [])] 1 1 [(0, (1, (.tmp 46)))])), 0, []⟩,
⟨(some 48), none, (.h (.app 1 16 (.tmp 44) (.tmp 47))), 0, []⟩,
⟨(some 49), none, (.p (.fieldAt 1 (.tmp 6))), 0, []⟩,
⟨none, none, (.h (.store 1 (.tmp 49) (.tmp 48))), 0, []⟩])))
(.ops [⟨(some 50), none, (.p (.bin .add (.tmp 39) (.c (.int .i64 1)))), 0, []⟩,
⟨(some 39), none, (.p (.mv (.tmp 50))), 0, []⟩])))))))
(.seq
(.seq
(.draw [⟨(some 52), none, (.p (.mv (.tmp 0))), 0, []⟩,
⟨(some 53), none, (.p (.nilchk (.tmp 52))), 1, []⟩,
⟨(some 54), none, (.p (.fieldAt 0 (.tmp 53))), 2, []⟩,
⟨(some 55), none, (.r (.load 1 false (.tmp 54))), 3, []⟩,
⟨(some 56), none, (.p (.fieldAt 1 (.tmp 5))), 4, []⟩,
⟨(some 57), none, (.r (.load 1 false (.tmp 56))), 5, []⟩,
⟨(some 58), none, (.r (.lookup (.one .str) (.int .i64 0) true (.tmp 55) (.tmp 57))), 6, []⟩,
⟨(some 51), none, (.p (.mv (.tmp 58))), 7, []⟩,
⟨(some 59), none, (.p (.ext (.tmp 51) 0)), 8, []⟩,
⟨(some 60), none, (.p (.ext (.tmp 51) 1)), 9, []⟩,
⟨(some 9), none, (.p (.mv (.tmp 59))), 10, []⟩,
⟨(some 10), none, (.p (.mv (.tmp 60))), 11, []⟩])
(.seq
(.ops [⟨(some 61), none, (.p (.mv (.tmp 10))), 0, []⟩,
⟨(some 62), none, (.p (.un .not (.tmp 61))), 0, []⟩])
(.cond (.tmp 62)
(.draw [⟨(some 63), none, (.p (.mv (.tmp 0))), 0, []⟩,
⟨(some 64), none, (.p (.nilchk (.tmp 63))), 1, []⟩,
⟨(some 65), none, (.p (.fieldAt 0 (.tmp 64))), 2, []⟩,
⟨(some 66), none, (.r (.load 1 false (.tmp 65))), 3, []⟩,
⟨(some 67), none, (.p (.fieldAt 1 (.tmp 5))), 4, []⟩,
⟨(some 68), none, (.r (.load 1 false (.tmp 67))), 5, []⟩,
⟨(some 69), none, (.p (.mv (.tmp 0))), 6, []⟩,
⟨(some 70), none, (.p (.nilchk (.tmp 69))), 7, []⟩,
⟨(some 71), none, (.p (.fieldAt 1 (.tmp 70))), 8, []⟩,
⟨(some 72), none, (.r (.load 1 false (.tmp 71))), 9, []⟩,
⟨(some 73), none, (.p (.nilchk (.tmp 72))), 10, []⟩,
⟨(some 74), none, (.p (.fieldAt 0 (.tmp 73))), 11, []⟩,
⟨(some 75), none, (.r (.load 1 false (.tmp 74))), 12, []⟩,
⟨(some 76), none, (.p (.lenSl (.tmp 75))), 13, []⟩,
⟨none, none, (.h (.mapUpd (.one .str) (.tmp 66) (.tmp 68) (.tmp 76))), 14, []⟩])
.skip)))
(.draw [⟨(some 77), none, (.p (.mv (.tmp 0))), 0, []⟩,
⟨(some 78), none, (.p (.nilchk (.tmp 77))), 1, []⟩,
⟨(some 79), none, (.p (.fieldAt 1 (.tmp 78))), 2, []⟩,
⟨(some 80), none, (.r (.load 1 false (.tmp 79))), 3, []⟩,
⟨(some 81), none, (.p (.mv (.tmp 0))), 4, []⟩,
⟨(some 82), none, (.p (.nilchk (.tmp 81))), 5, []⟩,
⟨(some 83), none, (.p (.fieldAt 1 (.tmp 82))), 6, []⟩,
⟨(some 84), none, (.r (.load 1 false (.tmp 83))), 7, []⟩,
⟨(some 85), none, (.p (.nilchk (.tmp 84))), 8, []⟩,
⟨(some 86), none, (.p (.fieldAt 0 (.tmp 85))), 9, []⟩,
⟨(some 87), none, (.r (.load 1 false (.tmp 86))), 10, []⟩,
⟨(some 88), none, (.r (.load 7 true (.tmp 6))), 11, []⟩,
⟨(some 89), none, (.a (.mkSl [(.str []), .nilsl, .nilsl, (.str []), (.str []), (.int .i64 0), .nilsl] 7 1 [(0, (7, (.tmp 88)))])), 12, []⟩,
⟨(some 90), none, (.h (.app 7 128 (.tmp 87) (.tmp 89))), 13, [3]⟩,
⟨(some 91), none, (.p (.nilchk (.tmp 80))), 14, []⟩,
⟨(some 92), none, (.p (.fieldAt 0 (.tmp 91))), 15, []⟩,
⟨none, none, (.h (.store 1 (.tmp 92) (.tmp 90))), 16, []⟩])))))))
(.ops [⟨(some 93), none, (.p (.bin .add (.tmp 13) (.c (.int .i64 1)))), 0, []⟩,
⟨(some 13), none, (.p (.mv (.tmp 93))), 0, []⟩])))))))⟩
theorem c33 : Mir.compF Tryz.prog Tryz.f33 = some g33 := by kernel_rfl
/-- (*scribe/resolve.resolver).mark -/
def g34 : Mir.Fn := ⟨128, [],
(.seq
(.ops [⟨(some 2), none, (.a (.box (.tmp 0))), 0, []⟩])
(.seq
(.ops [⟨(some 4), none, (.a (.alloc [(.bool false)])), 0, []⟩,
⟨none, none, (.h (.store 1 (.tmp 4) (.c (.bool true)))), 0, []⟩])
(.block 0 (.loop (.seq
(.seq
(.ops [⟨(some 20), none, (.r (.load 1 false (.tmp 4))), 0, []⟩])
(.cond (.tmp 20)
.skip
(.exit 0)))
(.seq
(.block 1 (.seq
(.ops [⟨none, none, (.h (.store 1 (.tmp 4) (.c (.bool false)))), 0, []⟩])
(.seq
(.ops [⟨(some 21), none, (.p (.mkFn 59 [] [(.tmp 2), (.tmp 4)])), 0, []⟩,
⟨(some 5), none, (.a (.alloc [.nilfn])), 0, []⟩,
⟨none, none, (.h (.store 1 (.tmp 5) (.tmp 21))), 0, []⟩])
(.seq
(.ops [⟨(some 22), none, (.p (.mv (.tmp 1))), 0, []⟩,
⟨(some 23), none, (.p (.lenSl (.tmp 22))), 0, []⟩,
⟨(some 24), none, (.p (.mv (.c (.int .i64 0)))), 0, []⟩])
(.block 2 (.loop (.seq
(.ops [⟨(some 25), none, (.p (.bin .lss (.tmp 24) (.tmp 23))), 0, []⟩])
(.seq
(.cond (.tmp 25)
.skip
(.exit 2))
(.seq
(.block 3 (.seq
(.ops [⟨(some 26), none, (.p (.idxSl 4 (.tmp 22) (.tmp 24))), 0, []⟩,
⟨(some 27), none, (.r (.load 4 true (.tmp 26))), 0, []⟩,
⟨(some 7), none, (.a (.alloc [(.str []), (.str []), (.int .i64 0), .nilsl])), 0, []⟩,
⟨none, none, (.h (.store 4 (.tmp 7) (.tmp 27))), 0, []⟩])
(.seq
(.ops [⟨(some 28), none, (.r (.load 1 false (.tmp 2))), 0, []⟩,
⟨(some 29), none, (.r (.load 4 true (.tmp 7))), 0, []⟩,
⟨(some 30), none, (.h (.call (.c (.fn 60 [] [])) [(.tmp 28), (.tmp 29)])), 0, []⟩,
⟨(some 8), none, (.a (.alloc [(.int .i64 0)])), 0, []⟩,
⟨none, none, (.h (.store 1 (.tmp 8) (.tmp 30))), 0, []⟩])
(.seq
(.ops [⟨(some 31), none, (.r (.load 4 true (.tmp 7))), 0, []⟩,
⟨(some 32), none, (.h (.call (.c (.fn 61 [] [])) [(.tmp 31)])), 0, []⟩])
(.block 4 (.rangeFn (.tmp 32) [33, 34] (.ops [⟨(some 10), none, (.a (.alloc [(.str []), (.str []), (.int .i64 0), .nilsl])), 0, []⟩,
⟨none, none, (.h (.store 4 (.tmp 10) (.tmp 34))), 0, []⟩]) (.block 5 (.seq
(.seq
(.ops [⟨(some 36), none, (.r (.load 4 true (.tmp 10))), 0, []⟩,
⟨(some 37), none, (.h (.call (.c (.fn 62 [] [])) [(.tmp 36)])), 0, []⟩,
⟨(some 35), none, (.p (.mv (.tmp 37))), 0, []⟩,
⟨(some 38), none, (.p (.ext (.tmp 35) 0)), 0, []⟩,
⟨(some 39), none, (.p (.ext (.tmp 35) 1)), 0, []⟩,
⟨(some 11), none, (.p (.mv (.tmp 38))), 0, []⟩,
⟨(some 12), none, (.p (.mv (.tmp 39))), 0, []⟩])
(.seq
(.ops [⟨(some 40), none, (.p (.mv (.tmp 12))), 0, []⟩])
(.cond (.tmp 40)
(.draw [⟨(some 41), none, (.r (.load 1 false (.tmp 5))), 0, []⟩,
⟨(some 42), none, (.r (.load 1 false (.tmp 2))), 1, []⟩,
⟨(some 43), none, (.r (.load 1 false (.tmp 8))), 2, []⟩,
⟨(some 44), none, (.p (.mv (.tmp 11))), 3, []⟩,
⟨(some 45), none, (.h (.call (.c (.fn 63 [] [])) [(.tmp 42), (.tmp 43), (.tmp 44)])), 4, [0]⟩,
⟨(some 46), none, (.h (.call (.tmp 41) [(.tmp 45)])), 5, []⟩])
.skip)))
(.seq
(.draw [⟨(some 48), none, (.r (.load 1 false (.tmp 2))), 0, []⟩,
⟨(some 49), none, (.p (.nilchk (.tmp 48))), 1, []⟩,
⟨(some 50), none, (.p (.fieldAt 0 (.tmp 49))), 2, []⟩,
⟨(some 51), none, (.r (.load 1 false (.tmp 50))), 3, []⟩,
⟨(some 52), none, (.p (.fieldAt 1 (.tmp 10))), 4, []⟩,
⟨(some 53), none, (.r (.load 1 false (.tmp 52))), 5, []⟩,
⟨(some 54), none, (.r (.lookup (.one .str) (.int .i64 0) true (.tmp 51) (.tmp 53))), 6, []⟩,
⟨(some 47), none, (.p (.mv (.tmp 54))), 7, []⟩,
⟨(some 55), none, (.p (.ext (.tmp 47) 0)), 8, []⟩,
⟨(some 56), none, (.p (.ext (.tmp 47) 1)), 9, []⟩,
⟨(some 13), none, (.p (.mv (.tmp 55))), 10, []⟩,
⟨(some 14), none, (.p (.mv (.tmp 56))), 11, []⟩])
(.seq
(.seq
(.ops [⟨(some 57), none, (.p (.fieldAt 0 (.tmp 10))), 0, []⟩,
⟨(some 58), none, (.r (.load 1 false (.tmp 57))), 0, []⟩,
⟨(some 59), none, (.p (.bin .neq (.tmp 58) (.c (.str [99, 97, 108, 108])))), 0, []⟩,
⟨(some 60), none, (.p (.mv (.tmp 59))), 0, []⟩,
⟨(some 61), (some (60, false)), (.p (.mv (.tmp 14))), 0, []⟩,
⟨(some 62), (some (60, false)), (.p (.un .not (.tmp 61))), 0, []⟩,
⟨(some 63), none, (.p (.pick (.tmp 60) (.c (.bool true)) (.tmp 62))), 0, []⟩])
(.cond (.tmp 63)
(.exit 5)
.skip))
(.seq
(.ops [⟨(some 64), none, (.r (.load 1 false (.tmp 2))), 0, []⟩,
⟨(some 65), none, (.p (.nilchk (.tmp 64))), 0, []⟩,
⟨(some 66), none, (.p (.fieldAt 1 (.tmp 65))), 0, []⟩,
⟨(some 67), none, (.r (.load 1 false (.tmp 66))), 0, []⟩,
⟨(some 68), none, (.p (.nilchk (.tmp 67))), 0, []⟩,
⟨(some 69), none, (.p (.fieldAt 0 (.tmp 68))), 0, []⟩,
⟨(some 70), none, (.r (.load 1 false (.tmp 69))), 0, []⟩,
⟨(some 71), none, (.p (.mv (.tmp 13))), 0, []⟩,
⟨(some 72), none, (.p (.idxSl 7 (.tmp 70) (.tmp 71))), 0, []⟩,
⟨(some 73), none, (.r (.load 7 true (.tmp 72))), 0, []⟩,
⟨(some 15), none, (.a (.alloc [(.str []), .nilsl, .nilsl, (.str []), (.str []), (.int .i64 0), .nilsl])), 0, []⟩,
⟨none, none, (.h (.store 7 (.tmp 15) (.tmp 73))), 0, []⟩])
(.seq
(.ops [⟨(some 74), none, (.p (.fieldAt 3 (.tmp 10))), 0, []⟩,
⟨(some 75), none, (.r (.load 1 false (.tmp 74))), 0, []⟩,
⟨(some 76), none, (.p (.fieldAt 3 (.tmp 10))), 0, []⟩,
⟨(some 77), none, (.r (.load 1 false (.tmp 76))), 0, []⟩,
⟨(some 78), none, (.p (.lenSl (.tmp 77))), 0, []⟩,
⟨(some 79), none, (.p (.fieldAt 1 (.tmp 15))), 0, []⟩,
⟨(some 80), none, (.r (.load 1 false (.tmp 79))), 0, []⟩,
⟨(some 81), none, (.p (.lenSl (.tmp 80))), 0, []⟩,
⟨(some 82), none, (.p (.mnmx false (.tmp 78) [(.tmp 81)])), 0, []⟩,
⟨(some 83), none, (.p (.subSl 4 (.tmp 75) none (some (.tmp 82)))), 0, []⟩,
⟨(some 84), none, (.p (.lenSl (.tmp 83))), 0, []⟩,
⟨(some 85), none, (.p (.mv (.c (.int .i64 0)))), 0, []⟩])
(.block 6 (.loop (.seq
(.ops [⟨(some 86), none, (.p (.bin .lss (.tmp 85) (.tmp 84))), 0, []⟩])
(.seq
(.cond (.tmp 86)
.skip
(.exit 6))
(.seq
(.block 7 (.seq
(.ops [⟨(some 87), none, (.p (.mv (.tmp 85))), 0, []⟩,
⟨(some 88), none, (.p (.idxSl 4 (.tmp 83) (.tmp 85))), 0, []⟩,
⟨(some 89), none, (.r (.load 4 true (.tmp 88))), 0, []⟩,
⟨(some 17), none, (.a (.alloc [(.str []), (.str []), (.int .i64 0), .nilsl])), 0, []⟩,
⟨(some 16), none, (.p (.mv (.tmp 87))), 0, []⟩,
⟨none, none, (.h (.store 4 (.tmp 17) (.tmp 89))), 0, []⟩])
(.seq
(.seq
(.ops [⟨(some 90), none, (.p (.fieldAt 0 (.tmp 17))), 0, []⟩,
⟨(some 91), none, (.r (.load 1 false (.tmp 90))), 0, []⟩,
⟨(some 92), none, (.p (.bin .neq (.tmp 91) (.c (.str [118, 97, 114])))), 0, []⟩])
(.cond (.tmp 92)
(.exit 7)
.skip))
(.seq
(.draw [⟨(some 93), none, (.p (.mv (.tmp 13))), 0, []⟩,
⟨(some 94), none, (.p (.fieldAt 1 (.tmp 15))), 1, []⟩,
⟨(some 95), none, (.r (.load 1 false (.tmp 94))), 2, []⟩,
⟨(some 96), none, (.p (.mv (.tmp 16))), 3, []⟩,
⟨(some 97), none, (.p (.idxSl 1 (.tmp 95) (.tmp 96))), 4, []⟩,
⟨(some 98), none, (.r (.load 1 false (.tmp 97))), 5, []⟩,
⟨(some 99), none, (.p (.build [(.int .i64 0), (.str [])] [(0, (1, (.tmp 93))), (1, (1, (.tmp 98)))])), 6, []⟩,
⟨(some 100), none, (.r (.load 1 false (.tmp 2))), 7, []⟩,
⟨(some 101), none, (.r (.load 1 false (.tmp 8))), 8, []⟩,
⟨(some 102), none, (.p (.fieldAt 1 (.tmp 17))), 9, []⟩,
⟨(some 103), none, (.r (.load 1 false (.tmp 102))), 10, []⟩,
⟨(some 104), none, (.h (.call (.c (.fn 63 [] [])) [(.tmp 100), (.tmp 101), (.tmp 103)])), 11, [2, 5]⟩,
⟨(some 18), none, (.a (.alloc [(.int .i64 0), (.str [])])), 12, []⟩,
⟨(some 19), none, (.a (.alloc [(.int .i64 0), (.str [])])), 13, []⟩,
⟨none, none, (.h (.store 2 (.tmp 18) (.tmp 99))), 14, []⟩,
⟨none, none, (.h (.store 2 (.tmp 19) (.tmp 104))), 15, []⟩])
(.seq
(.draw [⟨(some 105), none, (.r (.load 1 false (.tmp 2))), 0, []⟩,
⟨(some 106), none, (.p (.nilchk (.tmp 105))), 1, []⟩,
⟨(some 107), none, (.p (.fieldAt 2 (.tmp 106))), 2, []⟩,
⟨(some 108), none, (.r (.load 1 false (.tmp 107))), 3, []⟩,
⟨(some 109), none, (.r (.load 2 true (.tmp 18))), 4, []⟩,
⟨(some 110), none, (.r (.lookup (.agg [.int, .str]) (.bool false) false (.tmp 108) (.tmp 109))), 5, []⟩,
⟨(some 111), none, (.p (.mv (.tmp 110))), 6, []⟩,
⟨(some 112), (some (111, false)), (.r (.load 1 false (.tmp 2))), 7, []⟩,
⟨(some 113), (some (111, false)), (.p (.nilchk (.tmp 112))), 8, []⟩,
⟨(some 114), (some (111, false)), (.p (.fieldAt 2 (.tmp 113))), 9, []⟩,
⟨(some 115), (some (111, false)), (.r (.load 1 false (.tmp 114))), 10, []⟩,
⟨(some 116), (some (111, false)), (.r (.load 2 true (.tmp 19))), 11, []⟩,
⟨(some 117), (some (111, false)), (.r (.lookup (.agg [.int, .str]) (.bool false) false (.tmp 115) (.tmp 116))), 12, []⟩,
⟨(some 118), none, (.p (.pick (.tmp 111) (.c (.bool true)) (.tmp 117))), 13, []⟩])
(.cond (.tmp 118)
(.seq
(.ops [⟨(some 119), none, (.r (.load 1 false (.tmp 5))), 0, []⟩,
⟨(some 120), none, (.r (.load 2 true (.tmp 18))), 0, []⟩,
⟨(some 121), none, (.h (.call (.tmp 119) [(.tmp 120)])), 0, []⟩])
(.ops [⟨(some 122), none, (.r (.load 1 false (.tmp 5))), 0, []⟩,
⟨(some 123), none, (.r (.load 2 true (.tmp 19))), 0, []⟩,
⟨(some 124), none, (.h (.call (.tmp 122) [(.tmp 123)])), 0, []⟩]))
.skip))))))
(.ops [⟨(some 125), none, (.p (.bin .add (.tmp 85) (.c (.int .i64 1)))), 0, []⟩,
⟨(some 85), none, (.p (.mv (.tmp 125))), 0, []⟩]))))))))))))))))))
(.ops [⟨(some 126), none, (.p (.bin .add (.tmp 24) (.c (.int .i64 1)))), 0, []⟩,
⟨(some 24), none, (.p (.mv (.tmp 126))), 0, []⟩]))))))))))
(.seq
(.ops [⟨(some 127), none, (.r (.load 1 false (.tmp 4))), 0, []⟩])
(.ops [⟨(some 4), none, (.a (.alloc [(.bool false)])), 0, []⟩,
⟨none, none, (.h (.store 1 (.tmp 4) (.tmp 127))), 0, []⟩]))))))))⟩
theorem c34 : Mir.compF Tryz.prog Tryz.f34 = some g34 := by kernel_rfl
/-- (*scribe/resolve.resolver).item -/
def g35 : Mir.Fn := ⟨94, [],
(.seq
(.ops [⟨(some 4), none, (.a (.box (.tmp 1))), 0, []⟩])
(.seq
(.seq
(.ops [⟨(some 11), none, (.p (.fieldAt 0 (.tmp 4))), 0, []⟩,
⟨(some 12), none, (.r (.load 1 false (.tmp 11))), 0, []⟩,
⟨(some 13), none, (.p (.bin .neq (.tmp 12) (.c (.str [102, 117, 110, 99])))), 0, []⟩])
(.cond (.tmp 13)
(.seq
(.ops [⟨(some 14), none, (.p (.mv (.tmp 0))), 0, []⟩,
⟨(some 15), none, (.r (.load 4 true (.tmp 4))), 0, []⟩,
⟨(some 16), none, (.p (.fieldAt 0 (.tmp 4))), 0, []⟩,
⟨(some 17), none, (.r (.load 1 false (.tmp 16))), 0, []⟩,
⟨(some 18), none, (.p (.bin .eql (.tmp 17) (.c (.str [114, 117, 108, 101])))), 0, []⟩,
⟨(some 19), none, (.p (.build [(.bool false), (.bool false), (.bool false)] [(2, (1, (.tmp 18)))])), 0, []⟩,
⟨(some 20), none, (.h (.call (.c (.fn 64 [] [])) [(.tmp 14), (.c (.int .i64 (-1))), (.tmp 15), (.tmp 19)])), 0, []⟩])
.ret)
.skip))
(.seq
(.seq
(.draw [⟨(some 21), none, (.p (.mv (.tmp 0))), 0, []⟩,
⟨(some 22), none, (.p (.nilchk (.tmp 21))), 1, []⟩,
⟨(some 23), none, (.p (.fieldAt 0 (.tmp 22))), 2, []⟩,
⟨(some 24), none, (.r (.load 1 false (.tmp 23))), 3, []⟩,
⟨(some 25), none, (.p (.fieldAt 1 (.tmp 4))), 4, []⟩,
⟨(some 26), none, (.r (.load 1 false (.tmp 25))), 5, []⟩,
⟨(some 27), none, (.r (.lookup (.one .str) (.int .i64 0) false (.tmp 24) (.tmp 26))), 6, []⟩,
⟨(some 28), none, (.p (.mv (.tmp 2))), 7, []⟩,
⟨(some 29), none, (.p (.bin .neq (.tmp 27) (.tmp 28))), 8, []⟩])
(.cond (.tmp 29)
(.seq
(.ops [⟨(some 30), none, (.p (.mv (.tmp 0))), 0, []⟩,
⟨(some 31), none, (.p (.fieldAt 2 (.tmp 4))), 0, []⟩,
⟨(some 32), none, (.r (.load 1 false (.tmp 31))), 0, []⟩,
⟨(some 33), none, (.h (.call (.c (.fn 65 [] [])) [(.tmp 30), (.tmp 32), (.c (.int .i64 11))])), 0, []⟩])
.ret)
.skip))
(.seq
(.ops [⟨(some 34), none, (.p (.mv (.tmp 0))), 0, []⟩,
⟨(some 35), none, (.p (.nilchk (.tmp 34))), 0, []⟩,
⟨(some 36), none, (.p (.fieldAt 1 (.tmp 35))), 0, []⟩,
⟨(some 37), none, (.r (.load 1 false (.tmp 36))), 0, []⟩,
⟨(some 38), none, (.p (.nilchk (.tmp 37))), 0, []⟩,
⟨(some 39), none, (.p (.fieldAt 0 (.tmp 38))), 0, []⟩,
⟨(some 40), none, (.r (.load 1 false (.tmp 39))), 0, []⟩,
⟨(some 41), none, (.p (.mv (.tmp 2))), 0, []⟩,
⟨(some 42), none, (.p (.idxSl 7 (.tmp 40) (.tmp 41))), 0, []⟩,
⟨(some 43), none, (.r (.load 7 true (.tmp 42))), 0, []⟩,
⟨(some 6), none, (.a (.alloc [(.str []), .nilsl, .nilsl, (.str []), (.str []), (.int .i64 0), .nilsl])), 0, []⟩,
⟨none, none, (.h (.store 7 (.tmp 6) (.tmp 43))), 0, []⟩])
(.seq
(.seq
(.ops [⟨(some 44), none, (.p (.fieldAt 3 (.tmp 4))), 0, []⟩,
⟨(some 45), none, (.r (.load 1 false (.tmp 44))), 0, []⟩,
⟨(some 46), none, (.p (.fieldAt 3 (.tmp 4))), 0, []⟩,
⟨(some 47), none, (.r (.load 1 false (.tmp 46))), 0, []⟩,
⟨(some 48), none, (.p (.lenSl (.tmp 47))), 0, []⟩,
⟨(some 49), none, (.p (.bin .sub (.tmp 48) (.c (.int .i64 1)))), 0, []⟩,
⟨(some 50), none, (.p (.subSl 4 (.tmp 45) none (some (.tmp 49)))), 0, []⟩,
⟨(some 51), none, (.p (.lenSl (.tmp 50))), 0, []⟩,
⟨(some 52), none, (.p (.mv (.c (.int .i64 0)))), 0, []⟩])
(.block 0 (.loop (.seq
(.ops [⟨(some 53), none, (.p (.bin .lss (.tmp 52) (.tmp 51))), 0, []⟩])
(.seq
(.cond (.tmp 53)
.skip
(.exit 0))
(.seq
(.block 1 (.seq
(.ops [⟨(some 54), none, (.p (.mv (.tmp 52))), 0, []⟩,
⟨(some 55), none, (.p (.idxSl 4 (.tmp 50) (.tmp 52))), 0, []⟩,
⟨(some 56), none, (.r (.load 4 true (.tmp 55))), 0, []⟩,
⟨(some 8), none, (.a (.alloc [(.str []), (.str []), (.int .i64 0), .nilsl])), 0, []⟩,
⟨(some 7), none, (.p (.mv (.tmp 54))), 0, []⟩,
⟨none, none, (.h (.store 4 (.tmp 8) (.tmp 56))), 0, []⟩])
(.seq
(.draw [⟨(some 58), none, (.p (.mv (.tmp 0))), 0, []⟩,
⟨(some 59), none, (.p (.nilchk (.tmp 58))), 1, []⟩,
⟨(some 60), none, (.p (.fieldAt 0 (.tmp 59))), 2, []⟩,
⟨(some 61), none, (.r (.load 1 false (.tmp 60))), 3, []⟩,
⟨(some 62), none, (.p (.fieldAt 1 (.tmp 8))), 4, []⟩,
⟨(some 63), none, (.r (.load 1 false (.tmp 62))), 5, []⟩,
⟨(some 64), none, (.r (.lookup (.one .str) (.int .i64 0) true (.tmp 61) (.tmp 63))), 6, []⟩,
⟨(some 57), none, (.p (.mv (.tmp 64))), 7, []⟩,
⟨(some 65), none, (.p (.ext (.tmp 57) 0)), 8, []⟩,
⟨(some 66), none, (.p (.ext (.tmp 57) 1)), 9, []⟩,
⟨(some 9), none, (.p (.mv (.tmp 65))), 10, []⟩,
⟨(some 10), none, (.p (.mv (.tmp 66))), 11, []⟩])
(.seq
(.draw [⟨(some 67), none, (.p (.mv (.tmp 10))), 0, []⟩,
⟨(some 68), none, (.p (.mv (.tmp 67))), 1, []⟩,
⟨(some 69), (some (68, false)), (.p (.fieldAt 1 (.tmp 6))), 2, []⟩,
⟨(some 70), (some (68, false)), (.r (.load 1 false (.tmp 69))), 3, []⟩,
⟨(some 71), (some (68, false)), (.p (.mv (.tmp 7))), 4, []⟩,
⟨(some 72), (some (68, false)), (.p (.subSl 1 (.tmp 70) none (some (.tmp 71)))), 5, []⟩,
⟨(some 73), (some (68, false)), (.p (.fieldAt 1 (.tmp 8))), 6, []⟩,
⟨(some 74), (some (68, false)), (.r (.load 1 false (.tmp 73))), 7, []⟩,
⟨(some 75), (some (68, false)), (.h (.call (.c (.fn 50 [] [])) [(.tmp 72), (.tmp 74)])), 8, []⟩,
⟨(some 76), none, (.p (.pick (.tmp 68) (.c (.bool true)) (.tmp 75))), 9, []⟩,
⟨(some 77), none, (.p (.mv (.tmp 76))), 10, []⟩,
⟨(some 78), (some (77, false)), (.r (.load 1 false (.glob 2))), 11, []⟩,
⟨(some 79), (some (77, false)), (.p (.fieldAt 1 (.tmp 8))), 12, []⟩,
⟨(some 80), (some (77, false)), (.r (.load 1 false (.tmp 79))), 13, []⟩,
⟨(some 81), (some (77, false)), (.h (.call (.c (.fn 50 [] [])) [(.tmp 78), (.tmp 80)])), 14, []⟩,
⟨(some 82), none, (.p (.pick (.tmp 77) (.c (.bool true)) (.tmp 81))), 15, []⟩])
(.cond (.tmp 82)
(.ops [⟨(some 83), none, (.p (.mv (.tmp 0))), 0, []⟩,
⟨(some 84), none, (.p (.fieldAt 2 (.tmp 8))), 0, []⟩,
⟨(some 85), none, (.r (.load 1 false (.tmp 84))), 0, []⟩,
⟨(some 86), none, (.h (.call (.c (.fn 65 [] [])) [(.tmp 83), (.tmp 85), (.c (.int .i64 11))])), 0, []⟩])
.skip)))))
(.ops [⟨(some 87), none, (.p (.bin .add (.tmp 52) (.c (.int .i64 1)))), 0, []⟩,
⟨(some 52), none, (.p (.mv (.tmp 87))), 0, []⟩])))))))
(.ops [⟨(some 88), none, (.p (.mv (.tmp 0))), 0, []⟩,
⟨(some 89), none, (.p (.mv (.tmp 2))), 0, []⟩,
⟨(some 90), none, (.p (.fieldAt 3 (.tmp 6))), 0, []⟩,
⟨(some 91), none, (.r (.load 4 true (.tmp 90))), 0, []⟩,
⟨(some 92), none, (.p (.build [(.bool false), (.bool false), (.bool false)] [(1, (1, (.c (.bool true))))])), 0, []⟩,
⟨(some 93), none, (.h (.call (.c (.fn 64 [] [])) [(.tmp 88), (.tmp 89), (.tmp 91), (.tmp 92)])), 0, []⟩]))))))⟩
theorem c35 : Mir.compF Tryz.prog Tryz.f35 = some g35 := by kernel_rfl
/-- (*scribe/code.compiler).expr -/
def g36 : Mir.Fn := ⟨221, [],
(.seq
(.ops [⟨(some 2), none, (.a (.box (.tmp 0))), 0, []⟩,
⟨(some 3), none, (.a (.box (.tmp 1))), 0, []⟩])
(.seq
(.ops [⟨(some 16), none, (.p (.fieldAt 0 (.tmp 3))), 0, []⟩,
⟨(some 17), none, (.r (.load 1 false (.tmp 16))), 0, []⟩])
(.block 0 (.seq
(.ops [⟨(some 45), none, (.p (.bin .eql (.tmp 17) (.c (.str [110, 117, 109])))), 0, []⟩,
⟨(some 44), none, (.p (.mv (.tmp 45))), 0, []⟩])
(.cond (.tmp 44)
(.seq
(.ops [⟨(some 47), none, (.p (.fieldAt 1 (.tmp 3))), 0, []⟩,
⟨(some 48), none, (.r (.load 1 false (.tmp 47))), 0, []⟩,
⟨(some 49), none, (.h (.call (.c (.fn 66 [] [])) [(.tmp 48)])), 0, []⟩,
⟨(some 46), none, (.p (.mv (.tmp 49))), 0, []⟩,
⟨(some 50), none, (.p (.ext (.tmp 46) 0)), 0, []⟩,
⟨(some 51), none, (.p (.ext (.tmp 46) 1)), 0, []⟩,
⟨(some 4), none, (.p (.mv (.tmp 50))), 0, []⟩,
⟨(some 5), none, (.p (.mv (.tmp 51))), 0, []⟩])
(.ops [⟨(some 52), none, (.r (.load 1 false (.tmp 2))), 0, []⟩,
⟨(some 53), none, (.p (.mv (.tmp 4))), 0, []⟩,
⟨(some 54), none, (.h (.call (.c (.fn 67 [] [])) [(.tmp 52), (.tmp 53)])), 0, []⟩]))
(.seq
(.ops [⟨(some 56), none, (.p (.bin .eql (.tmp 17) (.c (.str [115, 116, 114])))), 0, []⟩,
⟨(some 55), none, (.p (.mv (.tmp 56))), 0, []⟩])
(.cond (.tmp 55)
(.ops [⟨(some 57), none, (.r (.load 1 false (.tmp 2))), 0, []⟩,
⟨(some 58), none, (.p (.fieldAt 1 (.tmp 3))), 0, []⟩,
⟨(some 59), none, (.r (.load 1 false (.tmp 58))), 0, []⟩,
⟨(some 60), none, (.h (.call (.c (.fn 22 [] [])) [(.tmp 57), (.tmp 59)])), 0, []⟩])
(.seq
(.ops [⟨(some 62), none, (.p (.bin .eql (.tmp 17) (.c (.str [114, 101])))), 0, []⟩,
⟨(some 61), none, (.p (.mv (.tmp 62))), 0, []⟩])
(.cond (.tmp 61)
(.seq
(.ops [⟨(some 63), none, (.r (.load 1 false (.tmp 2))), 0, []⟩,
⟨(some 64), none, (.h (.call (.c (.fn 67 [] [])) [(.tmp 63), (.c (.int .i64 0))])), 0, []⟩])
(.seq
(.ops [⟨(some 65), none, (.r (.load 1 false (.tmp 2))), 0, []⟩,
⟨(some 66), none, (.h (.call (.c (.fn 23 [] [])) [(.tmp 65), (.c (.int .i64 4)), (.c (.int .i64 0)), (.c (.int .i64 0))])), 0, []⟩])
(.seq
(.ops [⟨(some 67), none, (.r (.load 1 false (.tmp 2))), 0, []⟩,
⟨(some 68), none, (.p (.fieldAt 1 (.tmp 3))), 0, []⟩,
⟨(some 69), none, (.r (.load 1 false (.tmp 68))), 0, []⟩,
⟨(some 70), none, (.h (.call (.c (.fn 22 [] [])) [(.tmp 67), (.tmp 69)])), 0, []⟩])
(.ops [⟨(some 71), none, (.r (.load 1 false (.tmp 2))), 0, []⟩,
⟨(some 72), none, (.h (.call (.c (.fn 23 [] [])) [(.tmp 71), (.c (.int .i64 11)), (.c (.int .i64 0)), (.c (.int .i64 0))])), 0, []⟩]))))
(.seq
(.ops [⟨(some 74), none, (.p (.bin .eql (.tmp 17) (.c (.str [118, 97, 114])))), 0, []⟩,
⟨(some 73), none, (.p (.mv (.tmp 74))), 0, []⟩])
(.cond (.tmp 73)
(.seq
(.ops [⟨(some 76), none, (.r (.load 1 false (.tmp 2))), 0, []⟩,
⟨(some 77), none, (.p (.fieldAt 1 (.tmp 3))), 0, []⟩,
⟨(some 78), none, (.r (.load 1 false (.tmp 77))), 0, []⟩,
⟨(some 79), none, (.h (.call (.c (.fn 41 [] [])) [(.tmp 76), (.tmp 78)])), 0, []⟩,
⟨(some 75), none, (.p (.mv (.tmp 79))), 0, []⟩,
⟨(some 80), none, (.p (.ext (.tmp 75) 0)), 0, []⟩,
⟨(some 81), none, (.p (.ext (.tmp 75) 1)), 0, []⟩,
⟨(some 6), none, (.p (.mv (.tmp 80))), 0, []⟩,
⟨(some 7), none, (.p (.mv (.tmp 81))), 0, []⟩])
(.ops [⟨(some 82), none, (.r (.load 1 false (.tmp 2))), 0, []⟩,
⟨(some 83), none, (.p (.mv (.tmp 6))), 0, []⟩,
⟨(some 84), none, (.p (.mv (.tmp 7))), 0, []⟩,
⟨(some 85), none, (.h (.call (.c (.fn 23 [] [])) [(.tmp 82), (.c (.int .i64 3)), (.tmp 83), (.tmp 84)])), 0, []⟩]))
(.seq
(.ops [⟨(some 87), none, (.p (.bin .eql (.tmp 17) (.c (.str [102, 105, 101, 108, 100])))), 0, []⟩,
⟨(some 86), none, (.p (.mv (.tmp 87))), 0, []⟩])
(.cond (.tmp 86)
(.seq
(.draw [⟨(some 88), none, (.r (.load 1 false (.tmp 2))), 0, []⟩,
⟨(some 89), none, (.p (.fieldAt 3 (.tmp 3))), 1, []⟩,
⟨(some 90), none, (.r (.load 1 false (.tmp 89))), 2, []⟩,
⟨(some 91), none, (.p (.idxSl 4 (.tmp 90) (.c (.int .i64 0)))), 3, []⟩,
⟨(some 92), none, (.r (.load 4 true (.tmp 91))), 4, []⟩,
⟨(some 93), none, (.h (.call (.c (.fn 36 [] [])) [(.tmp 88), (.tmp 92)])), 5, []⟩])
(.ops [⟨(some 94), none, (.r (.load 1 false (.tmp 2))), 0, []⟩,
⟨(some 95), none, (.h (.call (.c (.fn 23 [] [])) [(.tmp 94), (.c (.int .i64 4)), (.c (.int .i64 0)), (.c (.int .i64 0))])), 0, []⟩]))
(.seq
(.seq
(.ops [⟨(some 97), none, (.p (.bin .eql (.tmp 17) (.c (.str [105, 110, 100, 101, 120])))), 0, []⟩,
⟨(some 96), none, (.p (.mv (.tmp 97))), 0, []⟩])
(.cond (.tmp 96)
.skip
(.ops [⟨(some 98), none, (.p (.bin .eql (.tmp 17) (.c (.str [105, 110])))), 0, []⟩,
⟨(some 96), none, (.p (.mv (.tmp 98))), 0, []⟩])))
(.cond (.tmp 96)
(.seq
(.draw [⟨(some 99), none, (.r (.load 1 false (.tmp 2))), 0, []⟩,
⟨(some 100), none, (.p (.fieldAt 3 (.tmp 3))), 1, []⟩,
⟨(some 101), none, (.r (.load 1 false (.tmp 100))), 2, []⟩,
⟨(some 102), none, (.p (.idxSl 4 (.tmp 101) (.c (.int .i64 0)))), 3, []⟩,
⟨(some 103), none, (.r (.load 4 true (.tmp 102))), 4, []⟩,
⟨(some 104), none, (.h (.call (.c (.fn 36 [] [])) [(.tmp 99), (.tmp 103)])), 5, []⟩])
(.seq
(.ops [⟨(some 8), none, (.p (.mv (.c (.int .i64 5)))), 0, []⟩])
(.seq
(.seq
(.ops [⟨(some 105), none, (.p (.fieldAt 0 (.tmp 3))), 0, []⟩,
⟨(some 106), none, (.r (.load 1 false (.tmp 105))), 0, []⟩,
⟨(some 107), none, (.p (.bin .eql (.tmp 106) (.c (.str [105, 110])))), 0, []⟩])
(.cond (.tmp 107)
(.ops [⟨(some 8), none, (.p (.mv (.c (.int .i64 12)))), 0, []⟩])
.skip))
(.seq
(.ops [⟨(some 109), none, (.r (.load 1 false (.tmp 2))), 0, []⟩,
⟨(some 110), none, (.p (.fieldAt 1 (.tmp 3))), 0, []⟩,
⟨(some 111), none, (.r (.load 1 false (.tmp 110))), 0, []⟩,
⟨(some 112), none, (.h (.call (.c (.fn 41 [] [])) [(.tmp 109), (.tmp 111)])), 0, []⟩,
⟨(some 108), none, (.p (.mv (.tmp 112))), 0, []⟩,
⟨(some 113), none, (.p (.ext (.tmp 108) 0)), 0, []⟩,
⟨(some 114), none, (.p (.ext (.tmp 108) 1)), 0, []⟩,
⟨(some 9), none, (.p (.mv (.tmp 113))), 0, []⟩,
⟨(some 10), none, (.p (.mv (.tmp 114))), 0, []⟩])
(.ops [⟨(some 115), none, (.r (.load 1 false (.tmp 2))), 0, []⟩,
⟨(some 116), none, (.p (.mv (.tmp 8))), 0, []⟩,
⟨(some 117), none, (.p (.mv (.tmp 9))), 0, []⟩,
⟨(some 118), none, (.p (.mv (.tmp 10))), 0, []⟩,
⟨(some 119), none, (.h (.call (.c (.fn 23 [] [])) [(.tmp 115), (.tmp 116), (.tmp 117), (.tmp 118)])), 0, []⟩])))))
(.seq
(.ops [⟨(some 121), none, (.p (.bin .eql (.tmp 17) (.c (.str [97, 115, 115, 105, 103, 110])))), 0, []⟩,
⟨(some 120), none, (.p (.mv (.tmp 121))), 0, []⟩])
(.cond (.tmp 120)
(.draw [⟨(some 122), none, (.r (.load 1 false (.tmp 2))), 0, []⟩,
⟨(some 123), none, (.p (.fieldAt 3 (.tmp 3))), 1, []⟩,
⟨(some 124), none, (.r (.load 1 false (.tmp 123))), 2, []⟩,
⟨(some 125), none, (.p (.idxSl 4 (.tmp 124) (.c (.int .i64 0)))), 3, []⟩,
⟨(some 126), none, (.r (.load 4 true (.tmp 125))), 4, []⟩,
⟨(some 127), none, (.r (.load 1 false (.glob 3))), 5, []⟩,
⟨(some 128), none, (.p (.fieldAt 1 (.tmp 3))), 6, []⟩,
⟨(some 129), none, (.r (.load 1 false (.tmp 128))), 7, []⟩,
⟨(some 131), none, (.p (.mkFn 69 [] [(.tmp 2), (.tmp 3)])), 9, []⟩,
⟨(some 130), none, (.h (.call (.c (.fn 19 [] [])) [(.tmp 127), (.tmp 129)])), 8, [0, 2, 4]⟩,
⟨(some 132), none, (.h (.call (.c (.fn 68 [] [])) [(.tmp 122), (.tmp 126), (.tmp 130), (.tmp 131)])), 10, []⟩])
(.seq
(.seq
(.ops [⟨(some 134), none, (.p (.bin .eql (.tmp 17) (.c (.str [112, 114, 101, 105, 110, 99])))), 0, []⟩,
⟨(some 133), none, (.p (.mv (.tmp 134))), 0, []⟩])
(.cond (.tmp 133)
.skip
(.seq
(.ops [⟨(some 135), none, (.p (.bin .eql (.tmp 17) (.c (.str [112, 114, 101, 100, 101, 99])))), 0, []⟩,
⟨(some 133), none, (.p (.mv (.tmp 135))), 0, []⟩])
(.cond (.tmp 133)
.skip
(.seq
(.ops [⟨(some 136), none, (.p (.bin .eql (.tmp 17) (.c (.str [112, 111, 115, 116, 105, 110, 99])))), 0, []⟩,
⟨(some 133), none, (.p (.mv (.tmp 136))), 0, []⟩])
(.cond (.tmp 133)
.skip
(.ops [⟨(some 137), none, (.p (.bin .eql (.tmp 17) (.c (.str [112, 111, 115, 116, 100, 101, 99])))), 0, []⟩,
⟨(some 133), none, (.p (.mv (.tmp 137))), 0, []⟩])))))))
(.cond (.tmp 133)
(.draw [⟨(some 138), none, (.r (.load 1 false (.tmp 2))), 0, []⟩,
⟨(some 139), none, (.p (.fieldAt 3 (.tmp 3))), 1, []⟩,
⟨(some 140), none, (.r (.load 1 false (.tmp 139))), 2, []⟩,
⟨(some 141), none, (.p (.idxSl 4 (.tmp 140) (.c (.int .i64 0)))), 3, []⟩,
⟨(some 142), none, (.r (.load 4 true (.tmp 141))), 4, []⟩,
⟨(some 143), none, (.r (.load 1 false (.glob 3))), 5, []⟩,
⟨(some 144), none, (.p (.fieldAt 0 (.tmp 3))), 6, []⟩,
⟨(some 145), none, (.r (.load 1 false (.tmp 144))), 7, []⟩,
⟨(some 146), none, (.h (.call (.c (.fn 19 [] [])) [(.tmp 143), (.tmp 145)])), 8, [0, 2, 4]⟩,
⟨(some 147), none, (.h (.call (.c (.fn 68 [] [])) [(.tmp 138), (.tmp 142), (.tmp 146), (.c (.fn 70 [] []))])), 9, []⟩])
(.seq
(.ops [⟨(some 149), none, (.p (.bin .eql (.tmp 17) (.c (.str [99, 111, 110, 100])))), 0, []⟩,
⟨(some 148), none, (.p (.mv (.tmp 149))), 0, []⟩])
(.cond (.tmp 148)
(.seq
(.draw [⟨(some 150), none, (.r (.load 1 false (.tmp 2))), 0, []⟩,
⟨(some 151), none, (.p (.fieldAt 3 (.tmp 3))), 1, []⟩,
⟨(some 152), none, (.r (.load 1 false (.tmp 151))), 2, []⟩,
⟨(some 153), none, (.p (.idxSl 4 (.tmp 152) (.c (.int .i64 0)))), 3, []⟩,
⟨(some 154), none, (.r (.load 4 true (.tmp 153))), 4, []⟩,
⟨(some 155), none, (.h (.call (.c (.fn 36 [] [])) [(.tmp 150), (.tmp 154)])), 5, []⟩])
(.seq
(.ops [⟨(some 156), none, (.r (.load 1 false (.tmp 2))), 0, []⟩,
⟨(some 157), none, (.h (.call (.c (.fn 23 [] [])) [(.tmp 156), (.c (.int .i64 17)), (.c (.int .i64 0)), (.c (.int .i64 0))])), 0, []⟩,
⟨(some 11), none, (.p (.mv (.tmp 157))), 0, []⟩])
(.seq
(.draw [⟨(some 158), none, (.r (.load 1 false (.tmp 2))), 0, []⟩,
⟨(some 159), none, (.p (.fieldAt 3 (.tmp 3))), 1, []⟩,
⟨(some 160), none, (.r (.load 1 false (.tmp 159))), 2, []⟩,
⟨(some 161), none, (.p (.idxSl 4 (.tmp 160) (.c (.int .i64 1)))), 3, []⟩,
⟨(some 162), none, (.r (.load 4 true (.tmp 161))), 4, []⟩,
⟨(some 163), none, (.h (.call (.c (.fn 36 [] [])) [(.tmp 158), (.tmp 162)])), 5, []⟩])
(.seq
(.ops [⟨(some 164), none, (.r (.load 1 false (.tmp 2))), 0, []⟩,
⟨(some 165), none, (.h (.call (.c (.fn 23 [] [])) [(.tmp 164), (.c (.int .i64 15)), (.c (.int .i64 0)), (.c (.int .i64 0))])), 0, []⟩,
⟨(some 12), none, (.p (.mv (.tmp 165))), 0, []⟩])
(.seq
(.ops [⟨(some 166), none, (.r (.load 1 false (.tmp 2))), 0, []⟩,
⟨(some 167), none, (.p (.mv (.tmp 11))), 0, []⟩,
⟨(some 168), none, (.a (.mkSl [(.int .i64 0)] 1 1 [(0, (1, (.tmp 167)))])), 0, []⟩,
⟨(some 169), none, (.h (.call (.c (.fn 37 [] [])) [(.tmp 166), (.tmp 168)])), 0, []⟩])
(.seq
(.draw [⟨(some 170), none, (.r (.load 1 false (.tmp 2))), 0, []⟩,
⟨(some 171), none, (.p (.fieldAt 3 (.tmp 3))), 1, []⟩,
⟨(some 172), none, (.r (.load 1 false (.tmp 171))), 2, []⟩,
⟨(some 173), none, (.p (.idxSl 4 (.tmp 172) (.c (.int .i64 2)))), 3, []⟩,
⟨(some 174), none, (.r (.load 4 true (.tmp 173))), 4, []⟩,
⟨(some 175), none, (.h (.call (.c (.fn 36 [] [])) [(.tmp 170), (.tmp 174)])), 5, []⟩])
(.ops [⟨(some 176), none, (.r (.load 1 false (.tmp 2))), 0, []⟩,
⟨(some 177), none, (.p (.mv (.tmp 12))), 0, []⟩,
⟨(some 178), none, (.a (.mkSl [(.int .i64 0)] 1 1 [(0, (1, (.tmp 177)))])), 0, []⟩,
⟨(some 179), none, (.h (.call (.c (.fn 37 [] [])) [(.tmp 176), (.tmp 178)])), 0, []⟩])))))))
(.seq
(.ops [⟨(some 181), none, (.p (.bin .eql (.tmp 17) (.c (.str [111, 114])))), 0, []⟩,
⟨(some 180), none, (.p (.mv (.tmp 181))), 0, []⟩])
(.cond (.tmp 180)
(.ops [⟨(some 182), none, (.r (.load 1 false (.tmp 2))), 0, []⟩,
⟨(some 183), none, (.r (.load 4 true (.tmp 3))), 0, []⟩,
⟨(some 184), none, (.h (.call (.c (.fn 71 [] [])) [(.tmp 182), (.tmp 183), (.c (.int .i64 16))])), 0, []⟩])
(.seq
(.ops [⟨(some 186), none, (.p (.bin .eql (.tmp 17) (.c (.str [97, 110, 100])))), 0, []⟩,
⟨(some 185), none, (.p (.mv (.tmp 186))), 0, []⟩])
(.cond (.tmp 185)
(.ops [⟨(some 187), none, (.r (.load 1 false (.tmp 2))), 0, []⟩,
⟨(some 188), none, (.r (.load 4 true (.tmp 3))), 0, []⟩,
⟨(some 189), none, (.h (.call (.c (.fn 71 [] [])) [(.tmp 187), (.tmp 188), (.c (.int .i64 17))])), 0, []⟩])
(.seq
(.seq
(.ops [⟨(some 191), none, (.p (.bin .eql (.tmp 17) (.c (.str [109, 97, 116, 99, 104])))), 0, []⟩,
⟨(some 190), none, (.p (.mv (.tmp 191))), 0, []⟩])
(.cond (.tmp 190)
.skip
(.ops [⟨(some 192), none, (.p (.bin .eql (.tmp 17) (.c (.str [110, 111, 109, 97, 116, 99, 104])))), 0, []⟩,
⟨(some 190), none, (.p (.mv (.tmp 192))), 0, []⟩])))
(.cond (.tmp 190)
(.seq
(.draw [⟨(some 193), none, (.r (.load 1 false (.tmp 2))), 0, []⟩,
⟨(some 194), none, (.p (.fieldAt 3 (.tmp 3))), 1, []⟩,
⟨(some 195), none, (.r (.load 1 false (.tmp 194))), 2, []⟩,
⟨(some 196), none, (.p (.idxSl 4 (.tmp 195) (.c (.int .i64 0)))), 3, []⟩,
⟨(some 197), none, (.r (.load 4 true (.tmp 196))), 4, []⟩,
⟨(some 198), none, (.h (.call (.c (.fn 36 [] [])) [(.tmp 193), (.tmp 197)])), 5, []⟩])
(.seq
(.draw [⟨(some 199), none, (.r (.load 1 false (.tmp 2))), 0, []⟩,
⟨(some 200), none, (.p (.fieldAt 3 (.tmp 3))), 1, []⟩,
⟨(some 201), none, (.r (.load 1 false (.tmp 200))), 2, []⟩,
⟨(some 202), none, (.p (.idxSl 4 (.tmp 201) (.c (.int .i64 1)))), 3, []⟩,
⟨(some 203), none, (.r (.load 4 true (.tmp 202))), 4, []⟩,
⟨(some 204), none, (.h (.call (.c (.fn 72 [] [])) [(.tmp 199), (.tmp 203)])), 5, []⟩])
(.draw [⟨(some 205), none, (.r (.load 1 false (.tmp 2))), 0, []⟩,
⟨(some 206), none, (.a (.mkSl [(.str [])] 1 2 [(0, (1, (.c (.str [109, 97, 116, 99, 104])))), (1, (1, (.c (.str [110, 111, 109, 97, 116, 99, 104]))))])), 1, []⟩,
⟨(some 207), none, (.p (.fieldAt 0 (.tmp 3))), 2, []⟩,
⟨(some 208), none, (.r (.load 1 false (.tmp 207))), 3, []⟩,
⟨(some 209), none, (.h (.call (.c (.fn 19 [] [])) [(.tmp 206), (.tmp 208)])), 4, [0]⟩,
⟨(some 210), none, (.h (.call (.c (.fn 23 [] [])) [(.tmp 205), (.c (.int .i64 11)), (.tmp 209), (.c (.int .i64 0))])), 5, []⟩])))
(.seq
(.ops [⟨(some 212), none, (.p (.bin .eql (.tmp 17) (.c (.str [99, 97, 108, 108])))), 0, []⟩,
⟨(some 211), none, (.p (.mv (.tmp 212))), 0, []⟩])
(.cond (.tmp 211)
(.ops [⟨(some 213), none, (.r (.load 1 false (.tmp 2))), 0, []⟩,
⟨(some 214), none, (.r (.load 4 true (.tmp 3))), 0, []⟩,
⟨(some 215), none, (.h (.call (.c (.fn 73 [] [])) [(.tmp 213), (.tmp 214)])), 0, []⟩])
(.seq
(.ops [⟨(some 217), none, (.p (.bin .eql (.tmp 17) (.c (.str [98, 117, 105, 108, 116, 105, 110])))), 0, []⟩,
⟨(some 216), none, (.p (.mv (.tmp 217))), 0, []⟩])
(.cond (.tmp 216)
(.ops [⟨(some 218), none, (.r (.load 1 false (.tmp 2))), 0, []⟩,
⟨(some 219), none, (.r (.load 4 true (.tmp 3))), 0, []⟩,
⟨(some 220), none, (.h (.call (.c (.fn 74 [] [])) [(.tmp 218), (.tmp 219)])), 0, []⟩])
(.seq
(.seq
(.ops [⟨(some 18), none, (.p (.fieldAt 3 (.tmp 3))), 0, []⟩,
⟨(some 19), none, (.r (.load 1 false (.tmp 18))), 0, []⟩,
⟨(some 20), none, (.p (.lenSl (.tmp 19))), 0, []⟩,
⟨(some 21), none, (.p (.mv (.c (.int .i64 0)))), 0, []⟩])
(.block 1 (.loop (.seq
(.ops [⟨(some 22), none, (.p (.bin .lss (.tmp 21) (.tmp 20))), 0, []⟩])
(.seq
(.cond (.tmp 22)
.skip
(.exit 1))
(.seq
(.block 2 (.seq
(.ops [⟨(some 23), none, (.p (.idxSl 4 (.tmp 19) (.tmp 21))), 0, []⟩,
⟨(some 24), none, (.r (.load 4 true (.tmp 23))), 0, []⟩,
⟨(some 14), none, (.a (.alloc [(.str []), (.str []), (.int .i64 0), .nilsl])), 0, []⟩,
⟨none, none, (.h (.store 4 (.tmp 14) (.tmp 24))), 0, []⟩])
(.ops [⟨(some 25), none, (.r (.load 1 false (.tmp 2))), 0, []⟩,
⟨(some 26), none, (.r (.load 4 true (.tmp 14))), 0, []⟩,
⟨(some 27), none, (.h (.call (.c (.fn 36 [] [])) [(.tmp 25), (.tmp 26)])), 0, []⟩])))
(.ops [⟨(some 28), none, (.p (.bin .add (.tmp 21) (.c (.int .i64 1)))), 0, []⟩,
⟨(some 21), none, (.p (.mv (.tmp 28))), 0, []⟩])))))))
(.seq
(.ops [⟨(some 29), none, (.r (.load 1 false (.glob 4))), 0, []⟩,
⟨(some 30), none, (.p (.fieldAt 0 (.tmp 3))), 0, []⟩,
⟨(some 31), none, (.r (.load 1 false (.tmp 30))), 0, []⟩,
⟨(some 32), none, (.h (.call (.c (.fn 19 [] [])) [(.tmp 29), (.tmp 31)])), 0, []⟩,
⟨(some 15), none, (.p (.mv (.tmp 32))), 0, []⟩])
(.seq
(.ops [⟨(some 33), none, (.p (.mv (.tmp 15))), 0, []⟩,
⟨(some 34), none, (.p (.bin .geq (.tmp 33) (.c (.int .i64 0)))), 0, []⟩])
(.cond (.tmp 34)
(.ops [⟨(some 35), none, (.r (.load 1 false (.tmp 2))), 0, []⟩,
⟨(some 36), none, (.p (.mv (.tmp 15))), 0, []⟩,
⟨(some 37), none, (.h (.call (.c (.fn 23 [] [])) [(.tmp 35), (.c (.int .i64 10)), (.tmp 36), (.c (.int .i64 0))])), 0, []⟩])
(.draw [⟨(some 38), none, (.r (.load 1 false (.tmp 2))), 0, []⟩,
⟨(some 39), none, (.r (.load 1 false (.glob 5))), 1, []⟩,
⟨(some 40), none, (.p (.fieldAt 0 (.tmp 3))), 2, []⟩,
⟨(some 41), none, (.r (.load 1 false (.tmp 40))), 3, []⟩,
⟨(some 42), none, (.h (.call (.c (.fn 19 [] [])) [(.tmp 39), (.tmp 41)])), 4, [0]⟩,
⟨(some 43), none, (.h (.call (.c (.fn 23 [] [])) [(.tmp 38), (.c (.int .i64 9)), (.tmp 42), (.c (.int .i64 0))])), 5, []⟩]))))))))))))))))))))))))))))))))))))⟩
theorem c36 : Mir.compF Tryz.prog Tryz.f36 = some g36 := by kernel_rfl
/-- (*scribe/code.compiler).here -/
def g37 : Mir.Fn := ⟨31, [],
(.seq
(.ops [⟨(some 6), none, (.p (.mv (.tmp 1))), 0, []⟩,
⟨(some 7), none, (.p (.lenSl (.tmp 6))), 0, []⟩,
⟨(some 8), none, (.p (.mv (.c (.int .i64 0)))), 0, []⟩])
(.block 0 (.loop (.seq
(.ops [⟨(some 9), none, (.p (.bin .lss (.tmp 8) (.tmp 7))), 0, []⟩])
(.seq
(.cond (.tmp 9)
.skip
(.exit 0))
(.seq
(.block 1 (.seq
(.ops [⟨(some 10), none, (.p (.idxSl 1 (.tmp 6) (.tmp 8))), 0, []⟩,
⟨(some 11), none, (.r (.load 1 false (.tmp 10))), 0, []⟩,
⟨(some 5), none, (.p (.mv (.tmp 11))), 0, []⟩])
(.draw [⟨(some 12), none, (.p (.mv (.tmp 0))), 0, []⟩,
⟨(some 13), none, (.p (.nilchk (.tmp 12))), 1, []⟩,
⟨(some 14), none, (.p (.fieldAt 0 (.tmp 13))), 2, []⟩,
⟨(some 15), none, (.r (.load 1 false (.tmp 14))), 3, []⟩,
⟨(some 16), none, (.p (.nilchk (.tmp 15))), 4, []⟩,
⟨(some 17), none, (.p (.fieldAt 0 (.tmp 16))), 5, []⟩,
⟨(some 18), none, (.r (.load 1 false (.tmp 17))), 6, []⟩,
⟨(some 19), none, (.p (.mv (.tmp 5))), 7, []⟩,
⟨(some 20), none, (.p (.mv (.tmp 0))), 8, []⟩,
⟨(some 21), none, (.p (.nilchk (.tmp 20))), 9, []⟩,
⟨(some 22), none, (.p (.fieldAt 0 (.tmp 21))), 10, []⟩,
⟨(some 23), none, (.r (.load 1 false (.tmp 22))), 11, []⟩,
⟨(some 24), none, (.p (.nilchk (.tmp 23))), 12, []⟩,
⟨(some 25), none, (.p (.fieldAt 0 (.tmp 24))), 13, []⟩,
⟨(some 26), none, (.r (.load 1 false (.tmp 25))), 14, []⟩,
⟨(some 27), none, (.p (.lenSl (.tmp 26))), 15, []⟩,
⟨(some 28), none, (.p (.idxSl 3 (.tmp 18) (.tmp 19))), 16, []⟩,
⟨(some 29), none, (.p (.fieldAt 1 (.tmp 28))), 17, []⟩,
⟨none, none, (.h (.store 1 (.tmp 29) (.tmp 27))), 18, []⟩])))
(.ops [⟨(some 30), none, (.p (.bin .add (.tmp 8) (.c (.int .i64 1)))), 0, []⟩,
⟨(some 8), none, (.p (.mv (.tmp 30))), 0, []⟩])))))))⟩
theorem c37 : Mir.compF Tryz.prog Tryz.f37 = some g37 := by kernel_rfl
/-- (*scribe/code.compiler).turn -/
def g38 : Mir.Fn := ⟨52, [],
(.seq
(.ops [⟨(some 5), none, (.a (.box (.tmp 1))), 0, []⟩,
⟨(some 6), none, (.a (.box (.tmp 2))), 0, []⟩])
(.seq
(.ops [⟨(some 11), none, (.p (.mv (.tmp 0))), 0, []⟩,
⟨(some 12), none, (.p (.nilchk (.tmp 11))), 0, []⟩,
⟨(some 13), none, (.p (.fieldAt 0 (.tmp 12))), 0, []⟩,
⟨(some 14), none, (.r (.load 1 false (.tmp 13))), 0, []⟩,
⟨(some 15), none, (.p (.nilchk (.tmp 14))), 0, []⟩,
⟨(some 16), none, (.p (.fieldAt 0 (.tmp 15))), 0, []⟩,
⟨(some 17), none, (.r (.load 1 false (.tmp 16))), 0, []⟩,
⟨(some 18), none, (.p (.lenSl (.tmp 17))), 0, []⟩,
⟨(some 8), none, (.p (.mv (.tmp 18))), 0, []⟩])
(.seq
(.ops [⟨(some 9), none, (.p (.mv (.c .nilsl))), 0, []⟩])
(.seq
(.seq
(.ops [⟨(some 19), none, (.p (.fieldAt 0 (.tmp 5))), 0, []⟩,
⟨(some 20), none, (.r (.load 1 false (.tmp 19))), 0, []⟩,
⟨(some 21), none, (.p (.bin .neq (.tmp 20) (.c (.str [110, 111, 110, 101])))), 0, []⟩])
(.cond (.tmp 21)
(.seq
(.ops [⟨(some 22), none, (.p (.mv (.tmp 0))), 0, []⟩,
⟨(some 23), none, (.r (.load 4 true (.tmp 5))), 0, []⟩,
⟨(some 24), none, (.h (.call (.c (.fn 36 [] [])) [(.tmp 22), (.tmp 23)])), 0, []⟩])
(.ops [⟨(some 25), none, (.p (.mv (.tmp 9))), 0, []⟩,
⟨(some 26), none, (.p (.mv (.tmp 0))), 0, []⟩,
⟨(some 27), none, (.h (.call (.c (.fn 23 [] [])) [(.tmp 26), (.c (.int .i64 17)), (.c (.int .i64 0)), (.c (.int .i64 0))])), 0, []⟩,
⟨(some 28), none, (.a (.mkSl [(.int .i64 0)] 1 1 [(0, (1, (.tmp 27)))])), 0, []⟩,
⟨(some 29), none, (.h (.app 1 8 (.tmp 25) (.tmp 28))), 0, []⟩,
⟨(some 9), none, (.p (.mv (.tmp 29))), 0, []⟩]))
.skip))
(.seq
(.ops [⟨(some 30), none, (.p (.mv (.tmp 0))), 0, []⟩,
⟨(some 31), none, (.r (.load 4 true (.tmp 6))), 0, []⟩,
⟨(some 32), none, (.h (.call (.c (.fn 42 [] [])) [(.tmp 30), (.tmp 31), (.c (.bool false))])), 0, []⟩,
⟨(some 10), none, (.p (.mv (.tmp 32))), 0, []⟩])
(.seq
(.ops [⟨(some 33), none, (.p (.mv (.tmp 0))), 0, []⟩,
⟨(some 34), none, (.p (.mv (.tmp 10))), 0, []⟩,
⟨(some 35), none, (.p (.nilchk (.tmp 34))), 0, []⟩,
⟨(some 36), none, (.p (.fieldAt 0 (.tmp 35))), 0, []⟩,
⟨(some 37), none, (.r (.load 1 false (.tmp 36))), 0, []⟩,
⟨(some 38), none, (.h (.call (.c (.fn 37 [] [])) [(.tmp 33), (.tmp 37)])), 0, []⟩])
(.seq
(.ops [⟨(some 39), none, (.p (.mv (.tmp 3))), 0, []⟩,
⟨(some 40), none, (.h (.call (.tmp 39) [])), 0, []⟩])
(.seq
(.ops [⟨(some 41), none, (.p (.mv (.tmp 0))), 0, []⟩,
⟨(some 42), none, (.p (.mv (.tmp 8))), 0, []⟩,
⟨(some 43), none, (.h (.call (.c (.fn 23 [] [])) [(.tmp 41), (.c (.int .i64 15)), (.tmp 42), (.c (.int .i64 0))])), 0, []⟩])
(.ops [⟨(some 44), none, (.p (.mv (.tmp 0))), 0, []⟩,
⟨(some 45), none, (.p (.mv (.tmp 9))), 0, []⟩,
⟨(some 46), none, (.p (.mv (.tmp 10))), 0, []⟩,
⟨(some 47), none, (.p (.nilchk (.tmp 46))), 0, []⟩,
⟨(some 48), none, (.p (.fieldAt 1 (.tmp 47))), 0, []⟩,
⟨(some 49), none, (.r (.load 1 false (.tmp 48))), 0, []⟩,
⟨(some 50), none, (.h (.app 1 8 (.tmp 45) (.tmp 49))), 0, []⟩,
⟨(some 51), none, (.h (.call (.c (.fn 37 [] [])) [(.tmp 44), (.tmp 50)])), 0, []⟩])))))))))⟩
theorem c38 : Mir.compF Tryz.prog Tryz.f38 = some g38 := by kernel_rfl
/-- (*scribe/code.compiler).stmt$1 -/
def g39 : Mir.Fn := ⟨0, [],
.skip⟩
theorem c39 : Mir.compF Tryz.prog Tryz.f39 = some g39 := by kernel_rfl
/-- (*scribe/code.compiler).stmt$2 -/
def g40 : Mir.Fn := ⟨8, [],
(.draw [⟨(some 2), none, (.r (.load 1 false (.tmp 0))), 0, []⟩,
⟨(some 3), none, (.p (.fieldAt 3 (.tmp 1))), 1, []⟩,
⟨(some 4), none, (.r (.load 1 false (.tmp 3))), 2, []⟩,
⟨(some 5), none, (.p (.idxSl 4 (.tmp 4) (.c (.int .i64 2)))), 3, []⟩,
⟨(some 6), none, (.r (.load 4 true (.tmp 5))), 4, []⟩,
⟨(some 7), none, (.h (.call (.c (.fn 21 [] [])) [(.tmp 2), (.tmp 6)])), 5, []⟩])⟩
theorem c40 : Mir.compF Tryz.prog Tryz.f40 = some g40 := by kernel_rfl
/-- (*scribe/code.compiler).slot -/
def g41 : Mir.Fn := ⟨40, [(.tmp 4), (.tmp 5)],
(.seq
(.ops [⟨(some 4), none, (.p (.mv (.c (.int .i64 0)))), 0, []⟩,
⟨(some 5), none, (.p (.mv (.c (.int .i64 0)))), 0, []⟩])
(.seq
(.seq
(.ops [⟨(some 7), none, (.p (.mv (.tmp 0))), 0, []⟩,
⟨(some 8), none, (.p (.nilchk (.tmp 7))), 0, []⟩,
⟨(some 9), none, (.p (.fieldAt 2 (.tmp 8))), 0, []⟩,
⟨(some 10), none, (.r (.load 1 false (.tmp 9))), 0, []⟩,
⟨(some 11), none, (.p (.bin .geq (.tmp 10) (.c (.int .i64 0)))), 0, []⟩])
(.cond (.tmp 11)
(.seq
(.draw [⟨(some 12), none, (.p (.mv (.tmp 0))), 0, []⟩,
⟨(some 13), none, (.p (.nilchk (.tmp 12))), 1, []⟩,
⟨(some 14), none, (.p (.fieldAt 1 (.tmp 13))), 2, []⟩,
⟨(some 15), none, (.r (.load 1 false (.tmp 14))), 3, []⟩,
⟨(some 16), none, (.p (.nilchk (.tmp 15))), 4, []⟩,
⟨(some 17), none, (.p (.fieldAt 0 (.tmp 16))), 5, []⟩,
⟨(some 18), none, (.r (.load 1 false (.tmp 17))), 6, []⟩,
⟨(some 19), none, (.p (.mv (.tmp 0))), 7, []⟩,
⟨(some 20), none, (.p (.nilchk (.tmp 19))), 8, []⟩,
⟨(some 21), none, (.p (.fieldAt 2 (.tmp 20))), 9, []⟩,
⟨(some 22), none, (.r (.load 1 false (.tmp 21))), 10, []⟩,
⟨(some 23), none, (.p (.idxSl 7 (.tmp 18) (.tmp 22))), 11, []⟩,
⟨(some 24), none, (.p (.fieldAt 1 (.tmp 23))), 12, []⟩,
⟨(some 25), none, (.r (.load 1 false (.tmp 24))), 13, []⟩,
⟨(some 26), none, (.p (.mv (.tmp 1))), 14, []⟩,
⟨(some 27), none, (.h (.call (.c (.fn 19 [] [])) [(.tmp 25), (.tmp 26)])), 15, []⟩,
⟨(some 6), none, (.p (.mv (.tmp 27))), 16, []⟩])
(.seq
(.ops [⟨(some 28), none, (.p (.mv (.tmp 6))), 0, []⟩,
⟨(some 29), none, (.p (.bin .geq (.tmp 28) (.c (.int .i64 0)))), 0, []⟩])
(.cond (.tmp 29)
(.seq
(.ops [⟨(some 30), none, (.p (.mv (.tmp 6))), 0, []⟩,
⟨(some 4), none, (.p (.mv (.tmp 30))), 0, []⟩,
⟨(some 5), none, (.p (.mv (.c (.int .i64 1)))), 0, []⟩])
.ret)
.skip)))
.skip))
(.seq
(.ops [⟨(some 31), none, (.p (.mv (.tmp 0))), 0, []⟩,
⟨(some 32), none, (.p (.nilchk (.tmp 31))), 0, []⟩,
⟨(some 33), none, (.p (.fieldAt 0 (.tmp 32))), 0, []⟩,
⟨(some 34), none, (.r (.load 1 false (.tmp 33))), 0, []⟩,
⟨(some 35), none, (.p (.nilchk (.tmp 34))), 0, []⟩,
⟨(some 36), none, (.p (.fieldAt 4 (.tmp 35))), 0, []⟩,
⟨(some 37), none, (.r (.load 1 false (.tmp 36))), 0, []⟩,
⟨(some 38), none, (.p (.mv (.tmp 1))), 0, []⟩,
⟨(some 39), none, (.h (.call (.c (.fn 19 [] [])) [(.tmp 37), (.tmp 38)])), 0, []⟩,
⟨(some 4), none, (.p (.mv (.tmp 39))), 0, []⟩,
⟨(some 5), none, (.p (.mv (.c (.int .i64 0)))), 0, []⟩])
.ret)))⟩
theorem c41 : Mir.compF Tryz.prog Tryz.f41 = some g41 := by kernel_rfl
/-- (*scribe/code.compiler).body -/
def g42 : Mir.Fn := ⟨39, [(.tmp 6)],
(.seq
(.ops [⟨(some 4), none, (.a (.box (.tmp 1))), 0, []⟩,
⟨(some 6), none, (.p (.mv (.c .nilptr))), 0, []⟩])
(.seq
(.ops [⟨(some 8), none, (.p (.mv (.tmp 2))), 0, []⟩,
⟨(some 9), none, (.p (.build [.nilsl, .nilsl, (.bool false)] [(2, (1, (.tmp 8)))])), 0, []⟩,
⟨(some 10), none, (.a (.box (.tmp 9))), 0, []⟩,
⟨(some 7), none, (.p (.mv (.tmp 10))), 0, []⟩])
(.seq
(.ops [⟨(some 11), none, (.p (.mv (.tmp 0))), 0, []⟩,
⟨(some 12), none, (.p (.mv (.tmp 0))), 0, []⟩,
⟨(some 13), none, (.p (.nilchk (.tmp 12))), 0, []⟩,
⟨(some 14), none, (.p (.fieldAt 3 (.tmp 13))), 0, []⟩,
⟨(some 15), none, (.r (.load 1 false (.tmp 14))), 0, []⟩,
⟨(some 16), none, (.p (.mv (.tmp 7))), 0, []⟩,
⟨(some 17), none, (.a (.mkSl [.nilptr] 1 1 [(0, (1, (.tmp 16)))])), 0, []⟩,
⟨(some 18), none, (.h (.app 1 8 (.tmp 15) (.tmp 17))), 0, []⟩,
⟨(some 19), none, (.p (.nilchk (.tmp 11))), 0, []⟩,
⟨(some 20), none, (.p (.fieldAt 3 (.tmp 19))), 0, []⟩,
⟨none, none, (.h (.store 1 (.tmp 20) (.tmp 18))), 0, []⟩])
(.seq
(.ops [⟨(some 21), none, (.p (.mv (.tmp 0))), 0, []⟩,
⟨(some 22), none, (.r (.load 4 true (.tmp 4))), 0, []⟩,
⟨(some 23), none, (.h (.call (.c (.fn 21 [] [])) [(.tmp 21), (.tmp 22)])), 0, []⟩])
(.seq
(.draw [⟨(some 24), none, (.p (.mv (.tmp 0))), 0, []⟩,
⟨(some 25), none, (.p (.mv (.tmp 0))), 1, []⟩,
⟨(some 26), none, (.p (.nilchk (.tmp 25))), 2, []⟩,
⟨(some 27), none, (.p (.fieldAt 3 (.tmp 26))), 3, []⟩,
⟨(some 28), none, (.r (.load 1 false (.tmp 27))), 4, []⟩,
⟨(some 29), none, (.p (.mv (.tmp 0))), 5, []⟩,
⟨(some 30), none, (.p (.nilchk (.tmp 29))), 6, []⟩,
⟨(some 31), none, (.p (.fieldAt 3 (.tmp 30))), 7, []⟩,
⟨(some 32), none, (.r (.load 1 false (.tmp 31))), 8, []⟩,
⟨(some 33), none, (.p (.lenSl (.tmp 32))), 9, []⟩,
⟨(some 34), none, (.p (.bin .sub (.tmp 33) (.c (.int .i64 1)))), 10, []⟩,
⟨(some 35), none, (.p (.subSl 1 (.tmp 28) none (some (.tmp 34)))), 11, []⟩,
⟨(some 36), none, (.p (.nilchk (.tmp 24))), 12, []⟩,
⟨(some 37), none, (.p (.fieldAt 3 (.tmp 36))), 13, []⟩,
⟨none, none, (.h (.store 1 (.tmp 37) (.tmp 35))), 14, []⟩])
(.seq
(.ops [⟨(some 38), none, (.p (.mv (.tmp 7))), 0, []⟩,
⟨(some 6), none, (.p (.mv (.tmp 38))), 0, []⟩])
.ret))))))⟩
theorem c42 : Mir.compF Tryz.prog Tryz.f42 = some g42 := by kernel_rfl
/-- (*scribe/code.compiler).output -/
def g43 : Mir.Fn := ⟨57, [],
(.seq
(.ops [⟨(some 3), none, (.a (.box (.tmp 1))), 0, []⟩])
(.seq
(.ops [⟨(some 8), none, (.p (.fieldAt 3 (.tmp 3))), 0, []⟩,
⟨(some 9), none, (.r (.load 1 false (.tmp 8))), 0, []⟩,
⟨(some 10), none, (.p (.subSl 4 (.tmp 9) (some (.c (.int .i64 1))) none)), 0, []⟩,
⟨(some 4), none, (.p (.mv (.tmp 10))), 0, []⟩])
(.seq
(.seq
(.ops [⟨(some 11), none, (.p (.mv (.tmp 4))), 0, []⟩,
⟨(some 12), none, (.p (.lenSl (.tmp 11))), 0, []⟩,
⟨(some 13), none, (.p (.mv (.c (.int .i64 0)))), 0, []⟩])
(.block 0 (.loop (.seq
(.ops [⟨(some 14), none, (.p (.bin .lss (.tmp 13) (.tmp 12))), 0, []⟩])
(.seq
(.cond (.tmp 14)
.skip
(.exit 0))
(.seq
(.block 1 (.seq
(.ops [⟨(some 15), none, (.p (.idxSl 4 (.tmp 11) (.tmp 13))), 0, []⟩,
⟨(some 16), none, (.r (.load 4 true (.tmp 15))), 0, []⟩,
⟨(some 6), none, (.a (.alloc [(.str []), (.str []), (.int .i64 0), .nilsl])), 0, []⟩,
⟨none, none, (.h (.store 4 (.tmp 6) (.tmp 16))), 0, []⟩])
(.ops [⟨(some 17), none, (.p (.mv (.tmp 0))), 0, []⟩,
⟨(some 18), none, (.r (.load 4 true (.tmp 6))), 0, []⟩,
⟨(some 19), none, (.h (.call (.c (.fn 36 [] [])) [(.tmp 17), (.tmp 18)])), 0, []⟩])))
(.ops [⟨(some 20), none, (.p (.bin .add (.tmp 13) (.c (.int .i64 1)))), 0, []⟩,
⟨(some 13), none, (.p (.mv (.tmp 20))), 0, []⟩])))))))
(.seq
(.seq
(.ops [⟨(some 21), none, (.p (.mv (.tmp 4))), 0, []⟩,
⟨(some 22), none, (.p (.lenSl (.tmp 21))), 0, []⟩,
⟨(some 23), none, (.p (.bin .eql (.tmp 22) (.c (.int .i64 0)))), 0, []⟩])
(.cond (.tmp 23)
(.seq
(.ops [⟨(some 24), none, (.p (.mv (.tmp 0))), 0, []⟩,
⟨(some 25), none, (.h (.call (.c (.fn 67 [] [])) [(.tmp 24), (.c (.int .i64 0))])), 0, []⟩])
(.ops [⟨(some 26), none, (.p (.mv (.tmp 0))), 0, []⟩,
⟨(some 27), none, (.h (.call (.c (.fn 23 [] [])) [(.tmp 26), (.c (.int .i64 4)), (.c (.int .i64 0)), (.c (.int .i64 0))])), 0, []⟩]))
.skip))
(.seq
(.ops [⟨(some 28), none, (.a (.mkSl [(.str [])] 1 3 [(0, (1, (.c (.str [110, 111, 110, 101])))), (1, (1, (.c (.str [116, 111])))), (2, (1, (.c (.str [97, 112, 112, 101, 110, 100]))))])), 0, []⟩,
⟨(some 29), none, (.p (.fieldAt 3 (.tmp 3))), 0, []⟩,
⟨(some 30), none, (.r (.load 1 false (.tmp 29))), 0, []⟩,
⟨(some 31), none, (.p (.idxSl 4 (.tmp 30) (.c (.int .i64 0)))), 0, []⟩,
⟨(some 32), none, (.p (.fieldAt 0 (.tmp 31))), 0, []⟩,
⟨(some 33), none, (.r (.load 1 false (.tmp 32))), 0, []⟩,
⟨(some 34), none, (.h (.call (.c (.fn 19 [] [])) [(.tmp 28), (.tmp 33)])), 0, []⟩,
⟨(some 7), none, (.p (.mv (.tmp 34))), 0, []⟩])
(.seq
(.seq
(.ops [⟨(some 35), none, (.p (.mv (.tmp 7))), 0, []⟩,
⟨(some 36), none, (.p (.bin .gtr (.tmp 35) (.c (.int .i64 0)))), 0, []⟩])
(.cond (.tmp 36)
(.ops [⟨(some 37), none, (.p (.mv (.tmp 0))), 0, []⟩,
⟨(some 38), none, (.p (.fieldAt 3 (.tmp 3))), 0, []⟩,
⟨(some 39), none, (.r (.load 1 false (.tmp 38))), 0, []⟩,
⟨(some 40), none, (.p (.idxSl 4 (.tmp 39) (.c (.int .i64 0)))), 0, []⟩,
⟨(some 41), none, (.p (.fieldAt 3 (.tmp 40))), 0, []⟩,
⟨(some 42), none, (.r (.load 1 false (.tmp 41))), 0, []⟩,
⟨(some 43), none, (.p (.idxSl 4 (.tmp 42) (.c (.int .i64 0)))), 0, []⟩,
⟨(some 44), none, (.r (.load 4 true (.tmp 43))), 0, []⟩,
⟨(some 45), none, (.h (.call (.c (.fn 36 [] [])) [(.tmp 37), (.tmp 44)])), 0, []⟩])
.skip))
(.ops [⟨(some 46), none, (.p (.mv (.tmp 0))), 0, []⟩,
⟨(some 47), none, (.a .mkMap), 0, []⟩,
⟨none, none, (.h (.mapUpd (.one .str) (.tmp 47) (.c (.str [112, 114, 105, 110, 116])) (.c (.int .i64 27)))), 0, []⟩,
⟨none, none, (.h (.mapUpd (.one .str) (.tmp 47) (.c (.str [112, 114, 105, 110, 116, 102])) (.c (.int .i64 28)))), 0, []⟩,
⟨(some 48), none, (.p (.mv (.tmp 47))), 0, []⟩,
⟨(some 49), none, (.p (.fieldAt 0 (.tmp 3))), 0, []⟩,
⟨(some 50), none, (.r (.load 1 false (.tmp 49))), 0, []⟩,
⟨(some 51), none, (.r (.lookup (.one .str) (.int .i64 0) false (.tmp 48) (.tmp 50))), 0, []⟩,
⟨(some 52), none, (.p (.mv (.tmp 4))), 0, []⟩,
⟨(some 53), none, (.p (.lenSl (.tmp 52))), 0, []⟩,
⟨(some 54), none, (.p (.mnmx true (.tmp 53) [(.c (.int .i64 1))])), 0, []⟩,
⟨(some 55), none, (.p (.mv (.tmp 7))), 0, []⟩,
⟨(some 56), none, (.h (.call (.c (.fn 23 [] [])) [(.tmp 46), (.tmp 51), (.tmp 54), (.tmp 55)])), 0, []⟩])))))))⟩
theorem c43 : Mir.compF Tryz.prog Tryz.f43 = some g43 := by kernel_rfl
/-- (*scribe/code.checker).reach -/
def g44 : Mir.Fn := ⟨74, [],
(.seq
(.ops [⟨(some 5), none, (.a (.box (.tmp 2))), 0, []⟩])
(.seq
(.seq
(.ops [⟨(some 8), none, (.p (.mv (.tmp 1))), 0, []⟩,
⟨(some 9), none, (.p (.bin .lss (.tmp 8) (.c (.int .i64 0)))), 0, []⟩,
⟨(some 10), none, (.p (.mv (.tmp 9))), 0, []⟩,
⟨(some 11), (some (10, false)), (.p (.mv (.tmp 1))), 0, []⟩,
⟨(some 12), (some (10, false)), (.p (.mv (.tmp 0))), 0, []⟩,
⟨(some 13), (some (10, false)), (.p (.nilchk (.tmp 12))), 0, []⟩,
⟨(some 14), (some (10, false)), (.p (.fieldAt 0 (.tmp 13))), 0, []⟩,
⟨(some 15), (some (10, false)), (.r (.load 1 false (.tmp 14))), 0, []⟩,
⟨(some 16), (some (10, false)), (.p (.nilchk (.tmp 15))), 0, []⟩,
⟨(some 17), (some (10, false)), (.p (.fieldAt 0 (.tmp 16))), 0, []⟩,
⟨(some 18), (some (10, false)), (.r (.load 1 false (.tmp 17))), 0, []⟩,
⟨(some 19), (some (10, false)), (.p (.lenSl (.tmp 18))), 0, []⟩,
⟨(some 20), (some (10, false)), (.p (.bin .geq (.tmp 11) (.tmp 19))), 0, []⟩,
⟨(some 21), none, (.p (.pick (.tmp 10) (.c (.bool true)) (.tmp 20))), 0, []⟩,
⟨(some 22), none, (.p (.mv (.tmp 21))), 0, []⟩,
⟨(some 23), (some (22, false)), (.p (.fieldAt 1 (.tmp 5))), 0, []⟩,
⟨(some 24), (some (22, false)), (.r (.load 1 false (.tmp 23))), 0, []⟩,
⟨(some 25), (some (22, false)), (.p (.lenStr (.tmp 24))), 0, []⟩,
⟨(some 26), (some (22, false)), (.p (.bin .gtr (.tmp 25) (.c (.int .i64 5000)))), 0, []⟩,
⟨(some 27), none, (.p (.pick (.tmp 22) (.c (.bool true)) (.tmp 26))), 0, []⟩,
⟨(some 28), none, (.p (.mv (.tmp 27))), 0, []⟩,
⟨(some 29), (some (28, false)), (.p (.fieldAt 2 (.tmp 5))), 0, []⟩,
⟨(some 30), (some (28, false)), (.r (.load 1 false (.tmp 29))), 0, []⟩,
⟨(some 31), (some (28, false)), (.p (.bin .gtr (.tmp 30) (.c (.int .i64 5000)))), 0, []⟩,
⟨(some 32), none, (.p (.pick (.tmp 28) (.c (.bool true)) (.tmp 31))), 0, []⟩])
(.cond (.tmp 32)
(.seq
(.ops [⟨(some 33), none, (.p (.mv (.tmp 0))), 0, []⟩,
⟨(some 34), none, (.p (.nilchk (.tmp 33))), 0, []⟩,
⟨(some 35), none, (.p (.fieldAt 3 (.tmp 34))), 0, []⟩,
⟨none, none, (.h (.store 1 (.tmp 35) (.c (.bool true)))), 0, []⟩])
.ret)
.skip))
(.seq
(.seq
(.ops [⟨(some 37), none, (.p (.mv (.tmp 0))), 0, []⟩,
⟨(some 38), none, (.p (.nilchk (.tmp 37))), 0, []⟩,
⟨(some 39), none, (.p (.fieldAt 1 (.tmp 38))), 0, []⟩,
⟨(some 40), none, (.r (.load 1 false (.tmp 39))), 0, []⟩,
⟨(some 41), none, (.p (.mv (.tmp 1))), 0, []⟩,
⟨(some 42), none, (.r (.lookup (.one .int) (.agg [(.int .i64 0), (.str []), (.int .i64 0)]) true (.tmp 40) (.tmp 41))), 0, []⟩,
⟨(some 36), none, (.p (.mv (.tmp 42))), 0, []⟩,
⟨(some 43), none, (.p (.ext (.tmp 36) 0)), 0, []⟩,
⟨(some 44), none, (.p (.ext (.tmp 36) 1)), 0, []⟩,
⟨(some 6), none, (.a (.alloc [(.int .i64 0), (.str []), (.int .i64 0)])), 0, []⟩,
⟨none, none, (.h (.store 3 (.tmp 6) (.tmp 43))), 0, []⟩,
⟨(some 7), none, (.p (.mv (.tmp 44))), 0, []⟩])
(.seq
(.ops [⟨(some 45), none, (.p (.mv (.tmp 7))), 0, []⟩])
(.cond (.tmp 45)
(.seq
(.ops [⟨(some 46), none, (.p (.mv (.tmp 0))), 0, []⟩,
⟨(some 47), none, (.p (.mv (.tmp 0))), 0, []⟩,
⟨(some 48), none, (.p (.nilchk (.tmp 47))), 0, []⟩,
⟨(some 49), none, (.p (.fieldAt 3 (.tmp 48))), 0, []⟩,
⟨(some 50), none, (.r (.load 1 false (.tmp 49))), 0, []⟩,
⟨(some 51), none, (.p (.mv (.tmp 50))), 0, []⟩,
⟨(some 52), (some (51, false)), (.r (.load 3 true (.tmp 6))), 0, []⟩,
⟨(some 53), (some (51, false)), (.r (.load 3 true (.tmp 5))), 0, []⟩,
⟨(some 54), (some (51, false)), (.p (.eqAgg [.int, .str, .int] true (.tmp 52) (.tmp 53))), 0, []⟩,
⟨(some 55), none, (.p (.pick (.tmp 51) (.c (.bool true)) (.tmp 54))), 0, []⟩,
⟨(some 56), none, (.p (.nilchk (.tmp 46))), 0, []⟩,
⟨(some 57), none, (.p (.fieldAt 3 (.tmp 56))), 0, []⟩,
⟨none, none, (.h (.store 1 (.tmp 57) (.tmp 55))), 0, []⟩])
.ret)
.skip)))
(.seq
(.draw [⟨(some 58), none, (.p (.mv (.tmp 0))), 0, []⟩,
⟨(some 59), none, (.p (.nilchk (.tmp 58))), 1, []⟩,
⟨(some 60), none, (.p (.fieldAt 1 (.tmp 59))), 2, []⟩,
⟨(some 61), none, (.r (.load 1 false (.tmp 60))), 3, []⟩,
⟨(some 62), none, (.p (.mv (.tmp 1))), 4, []⟩,
⟨(some 63), none, (.r (.load 3 true (.tmp 5))), 5, []⟩,
⟨none, none, (.h (.mapUpd (.one .int) (.tmp 61) (.tmp 62) (.tmp 63))), 6, []⟩])
(.ops [⟨(some 64), none, (.p (.mv (.tmp 0))), 0, []⟩,
⟨(some 65), none, (.p (.mv (.tmp 0))), 0, []⟩,
⟨(some 66), none, (.p (.nilchk (.tmp 65))), 0, []⟩,
⟨(some 67), none, (.p (.fieldAt 2 (.tmp 66))), 0, []⟩,
⟨(some 68), none, (.r (.load 1 false (.tmp 67))), 0, []⟩,
⟨(some 69), none, (.p (.mv (.tmp 1))), 0, []⟩,
⟨(some 70), none, (.a (.mkSl [(.int .i64 0)] 1 1 [(0, (1, (.tmp 69)))])), 0, []⟩,
⟨(some 71), none, (.h (.app 1 8 (.tmp 68) (.tmp 70))), 0, []⟩,
⟨(some 72), none, (.p (.nilchk (.tmp 64))), 0, []⟩,
⟨(some 73), none, (.p (.fieldAt 2 (.tmp 72))), 0, []⟩,
⟨none, none, (.h (.store 1 (.tmp 73) (.tmp 71))), 0, []⟩])))))⟩
theorem c44 : Mir.compF Tryz.prog Tryz.f44 = some g44 := by kernel_rfl
/-- (*scribe/code.checker).step -/
def g45 : Mir.Fn := ⟨158, [],
(.seq
(.draw [⟨(some 10), none, (.p (.mv (.tmp 0))), 0, []⟩,
⟨(some 11), none, (.p (.nilchk (.tmp 10))), 1, []⟩,
⟨(some 12), none, (.p (.fieldAt 1 (.tmp 11))), 2, []⟩,
⟨(some 13), none, (.r (.load 1 false (.tmp 12))), 3, []⟩,
⟨(some 14), none, (.p (.mv (.tmp 1))), 4, []⟩,
⟨(some 15), none, (.r (.lookup (.one .int) (.agg [(.int .i64 0), (.str []), (.int .i64 0)]) false (.tmp 13) (.tmp 14))), 5, []⟩,
⟨(some 16), none, (.p (.mv (.tmp 0))), 6, []⟩,
⟨(some 17), none, (.p (.nilchk (.tmp 16))), 7, []⟩,
⟨(some 18), none, (.p (.fieldAt 0 (.tmp 17))), 8, []⟩,
⟨(some 19), none, (.r (.load 1 false (.tmp 18))), 9, []⟩,
⟨(some 20), none, (.p (.nilchk (.tmp 19))), 10, []⟩,
⟨(some 21), none, (.p (.fieldAt 0 (.tmp 20))), 11, []⟩,
⟨(some 22), none, (.r (.load 1 false (.tmp 21))), 12, []⟩,
⟨(some 23), none, (.p (.mv (.tmp 1))), 13, []⟩,
⟨(some 24), none, (.p (.idxSl 3 (.tmp 22) (.tmp 23))), 14, []⟩,
⟨(some 25), none, (.r (.load 3 true (.tmp 24))), 15, []⟩,
⟨(some 4), none, (.a (.alloc [(.int .i64 0), (.str []), (.int .i64 0)])), 16, []⟩,
⟨(some 5), none, (.a (.alloc [(.int .i64 0), (.int .i64 0), (.int .i64 0)])), 17, []⟩,
⟨none, none, (.h (.store 3 (.tmp 4) (.tmp 15))), 18, [9, 12, 15]⟩,
⟨none, none, (.h (.store 3 (.tmp 5) (.tmp 25))), 19, []⟩])
(.seq
(.ops [⟨(some 27), none, (.p (.mv (.tmp 0))), 0, []⟩,
⟨(some 28), none, (.r (.load 3 true (.tmp 4))), 0, []⟩,
⟨(some 29), none, (.r (.load 3 true (.tmp 5))), 0, []⟩,
⟨(some 30), none, (.h (.call (.c (.fn 75 [] [])) [(.tmp 27), (.tmp 28), (.tmp 29)])), 0, []⟩,
⟨(some 26), none, (.p (.mv (.tmp 30))), 0, []⟩,
⟨(some 31), none, (.p (.ext (.tmp 26) 0)), 0, []⟩,
⟨(some 32), none, (.p (.ext (.tmp 26) 1)), 0, []⟩,
⟨(some 33), none, (.p (.ext (.tmp 26) 2)), 0, []⟩,
⟨(some 6), none, (.p (.mv (.tmp 31))), 0, []⟩,
⟨(some 7), none, (.p (.mv (.tmp 32))), 0, []⟩,
⟨(some 8), none, (.p (.mv (.tmp 33))), 0, []⟩])
(.seq
(.ops [⟨(some 34), none, (.p (.fieldAt 1 (.tmp 4))), 0, []⟩,
⟨(some 35), none, (.r (.load 1 false (.tmp 34))), 0, []⟩,
⟨(some 36), none, (.p (.lenStr (.tmp 35))), 0, []⟩,
⟨(some 37), none, (.p (.mv (.tmp 6))), 0, []⟩,
⟨(some 38), none, (.p (.lenStr (.tmp 37))), 0, []⟩,
⟨(some 39), none, (.p (.bin .sub (.tmp 36) (.tmp 38))), 0, []⟩,
⟨(some 9), none, (.p (.mv (.tmp 39))), 0, []⟩])
(.seq
(.seq
(.ops [⟨(some 40), none, (.p (.mv (.tmp 8))), 0, []⟩,
⟨(some 41), none, (.p (.un .not (.tmp 40))), 0, []⟩,
⟨(some 42), none, (.p (.mv (.tmp 41))), 0, []⟩,
⟨(some 43), (some (42, false)), (.p (.mv (.tmp 9))), 0, []⟩,
⟨(some 44), (some (42, false)), (.p (.bin .lss (.tmp 43) (.c (.int .i64 0)))), 0, []⟩,
⟨(some 45), none, (.p (.pick (.tmp 42) (.c (.bool true)) (.tmp 44))), 0, []⟩,
⟨(some 46), none, (.p (.mv (.tmp 45))), 0, []⟩,
⟨(some 47), (some (46, false)), (.p (.fieldAt 1 (.tmp 4))), 0, []⟩,
⟨(some 48), (some (46, false)), (.r (.load 1 false (.tmp 47))), 0, []⟩,
⟨(some 49), (some (46, false)), (.p (.mv (.tmp 9))), 0, []⟩,
⟨(some 50), (some (46, false)), (.p (.subStr (.tmp 48) (some (.tmp 49)) none)), 0, []⟩,
⟨(some 51), (some (46, false)), (.p (.mv (.tmp 6))), 0, []⟩,
⟨(some 52), (some (46, false)), (.p (.bin .neq (.tmp 50) (.tmp 51))), 0, []⟩,
⟨(some 53), none, (.p (.pick (.tmp 46) (.c (.bool true)) (.tmp 52))), 0, []⟩])
(.cond (.tmp 53)
(.seq
(.ops [⟨(some 54), none, (.p (.mv (.tmp 0))), 0, []⟩,
⟨(some 55), none, (.p (.nilchk (.tmp 54))), 0, []⟩,
⟨(some 56), none, (.p (.fieldAt 3 (.tmp 55))), 0, []⟩,
⟨none, none, (.h (.store 1 (.tmp 56) (.c (.bool true)))), 0, []⟩])
.ret)
.skip))
(.seq
(.ops [⟨(some 57), none, (.p (.fieldAt 1 (.tmp 4))), 0, []⟩,
⟨(some 58), none, (.r (.load 1 false (.tmp 57))), 0, []⟩,
⟨(some 59), none, (.p (.mv (.tmp 9))), 0, []⟩,
⟨(some 60), none, (.p (.subStr (.tmp 58) none (some (.tmp 59)))), 0, []⟩,
⟨(some 61), none, (.p (.mv (.tmp 7))), 0, []⟩,
⟨(some 62), none, (.p (.bin .add (.tmp 60) (.tmp 61))), 0, []⟩,
⟨(some 63), none, (.p (.fieldAt 1 (.tmp 4))), 0, []⟩,
⟨none, none, (.h (.store 1 (.tmp 63) (.tmp 62))), 0, []⟩])
(.seq
(.seq
(.ops [⟨(some 64), none, (.p (.fieldAt 0 (.tmp 5))), 0, []⟩,
⟨(some 65), none, (.r (.load 1 false (.tmp 64))), 0, []⟩])
(.block 0 (.seq
(.seq
(.ops [⟨(some 67), none, (.p (.bin .eql (.tmp 65) (.c (.int .i64 23)))), 0, []⟩,
⟨(some 66), none, (.p (.mv (.tmp 67))), 0, []⟩])
(.cond (.tmp 66)
.skip
(.ops [⟨(some 68), none, (.p (.bin .eql (.tmp 65) (.c (.int .i64 33)))), 0, []⟩,
⟨(some 66), none, (.p (.mv (.tmp 68))), 0, []⟩])))
(.cond (.tmp 66)
.ret
(.seq
(.ops [⟨(some 70), none, (.p (.bin .eql (.tmp 65) (.c (.int .i64 32)))), 0, []⟩,
⟨(some 69), none, (.p (.mv (.tmp 70))), 0, []⟩])
(.cond (.tmp 69)
(.seq
(.ops [⟨(some 71), none, (.p (.mv (.tmp 0))), 0, []⟩,
⟨(some 72), none, (.p (.mv (.tmp 0))), 0, []⟩,
⟨(some 73), none, (.p (.nilchk (.tmp 72))), 0, []⟩,
⟨(some 74), none, (.p (.fieldAt 3 (.tmp 73))), 0, []⟩,
⟨(some 75), none, (.r (.load 1 false (.tmp 74))), 0, []⟩,
⟨(some 76), none, (.p (.mv (.tmp 75))), 0, []⟩,
⟨(some 77), (some (76, false)), (.p (.fieldAt 0 (.tmp 4))), 0, []⟩,
⟨(some 78), (some (76, false)), (.r (.load 1 false (.tmp 77))), 0, []⟩,
⟨(some 79), (some (76, false)), (.p (.bin .neq (.tmp 78) (.c (.int .i64 1)))), 0, []⟩,
⟨(some 80), none, (.p (.pick (.tmp 76) (.c (.bool true)) (.tmp 79))), 0, []⟩,
⟨(some 81), none, (.p (.nilchk (.tmp 71))), 0, []⟩,
⟨(some 82), none, (.p (.fieldAt 3 (.tmp 81))), 0, []⟩,
⟨none, none, (.h (.store 1 (.tmp 82) (.tmp 80))), 0, []⟩])
.ret)
(.seq
(.ops [⟨(some 84), none, (.p (.bin .eql (.tmp 65) (.c (.int .i64 34)))), 0, []⟩,
⟨(some 83), none, (.p (.mv (.tmp 84))), 0, []⟩])
(.cond (.tmp 83)
(.seq
(.ops [⟨(some 85), none, (.p (.mv (.tmp 0))), 0, []⟩,
⟨(some 86), none, (.p (.mv (.tmp 0))), 0, []⟩,
⟨(some 87), none, (.p (.nilchk (.tmp 86))), 0, []⟩,
⟨(some 88), none, (.p (.fieldAt 3 (.tmp 87))), 0, []⟩,
⟨(some 89), none, (.r (.load 1 false (.tmp 88))), 0, []⟩,
⟨(some 90), none, (.p (.mv (.tmp 89))), 0, []⟩,
⟨(some 91), (some (90, false)), (.p (.fieldAt 0 (.tmp 4))), 0, []⟩,
⟨(some 92), (some (90, false)), (.r (.load 1 false (.tmp 91))), 0, []⟩,
⟨(some 93), (some (90, false)), (.p (.bin .gtr (.tmp 92) (.c (.int .i64 2)))), 0, []⟩,
⟨(some 94), none, (.p (.pick (.tmp 90) (.c (.bool true)) (.tmp 93))), 0, []⟩,
⟨(some 95), none, (.p (.mv (.tmp 94))), 0, []⟩,
⟨(some 96), (some (95, false)), (.p (.fieldAt 1 (.tmp 4))), 0, []⟩,
⟨(some 97), (some (95, false)), (.r (.load 1 false (.tmp 96))), 0, []⟩,
⟨(some 98), (some (95, false)), (.p (.bin .neq (.tmp 97) (.c (.str [])))), 0, []⟩,
⟨(some 99), none, (.p (.pick (.tmp 95) (.c (.bool true)) (.tmp 98))), 0, []⟩,
⟨(some 100), none, (.p (.mv (.tmp 99))), 0, []⟩,
⟨(some 101), (some (100, false)), (.p (.fieldAt 2 (.tmp 4))), 0, []⟩,
⟨(some 102), (some (100, false)), (.r (.load 1 false (.tmp 101))), 0, []⟩,
⟨(some 103), (some (100, false)), (.p (.bin .neq (.tmp 102) (.c (.int .i64 0)))), 0, []⟩,
⟨(some 104), none, (.p (.pick (.tmp 100) (.c (.bool true)) (.tmp 103))), 0, []⟩,
⟨(some 105), none, (.p (.nilchk (.tmp 85))), 0, []⟩,
⟨(some 106), none, (.p (.fieldAt 3 (.tmp 105))), 0, []⟩,
⟨none, none, (.h (.store 1 (.tmp 106) (.tmp 104))), 0, []⟩])
.ret)
(.seq
(.ops [⟨(some 108), none, (.p (.bin .eql (.tmp 65) (.c (.int .i64 15)))), 0, []⟩,
⟨(some 107), none, (.p (.mv (.tmp 108))), 0, []⟩])
(.cond (.tmp 107)
(.seq
(.ops [⟨(some 109), none, (.p (.mv (.tmp 0))), 0, []⟩,
⟨(some 110), none, (.p (.fieldAt 1 (.tmp 5))), 0, []⟩,
⟨(some 111), none, (.r (.load 1 false (.tmp 110))), 0, []⟩,
⟨(some 112), none, (.r (.load 3 true (.tmp 4))), 0, []⟩,
⟨(some 113), none, (.h (.call (.c (.fn 44 [] [])) [(.tmp 109), (.tmp 111), (.tmp 112)])), 0, []⟩])
.ret)
(.seq
(.seq
(.ops [⟨(some 115), none, (.p (.bin .eql (.tmp 65) (.c (.int .i64 16)))), 0, []⟩,
⟨(some 114), none, (.p (.mv (.tmp 115))), 0, []⟩])
(.cond (.tmp 114)
.skip
(.ops [⟨(some 116), none, (.p (.bin .eql (.tmp 65) (.c (.int .i64 17)))), 0, []⟩,
⟨(some 114), none, (.p (.mv (.tmp 116))), 0, []⟩])))
(.cond (.tmp 114)
(.ops [⟨(some 117), none, (.p (.mv (.tmp 0))), 0, []⟩,
⟨(some 118), none, (.p (.fieldAt 1 (.tmp 5))), 0, []⟩,
⟨(some 119), none, (.r (.load 1 false (.tmp 118))), 0, []⟩,
⟨(some 120), none, (.r (.load 3 true (.tmp 4))), 0, []⟩,
⟨(some 121), none, (.h (.call (.c (.fn 44 [] [])) [(.tmp 117), (.tmp 119), (.tmp 120)])), 0, []⟩])
(.seq
(.ops [⟨(some 123), none, (.p (.bin .eql (.tmp 65) (.c (.int .i64 29)))), 0, []⟩,
⟨(some 122), none, (.p (.mv (.tmp 123))), 0, []⟩])
(.cond (.tmp 122)
(.ops [⟨(some 124), none, (.p (.fieldAt 2 (.tmp 4))), 0, []⟩,
⟨(some 125), none, (.r (.load 1 false (.tmp 124))), 0, []⟩,
⟨(some 126), none, (.p (.bin .add (.tmp 125) (.c (.int .i64 1)))), 0, []⟩,
⟨(some 127), none, (.p (.fieldAt 2 (.tmp 4))), 0, []⟩,
⟨none, none, (.h (.store 1 (.tmp 127) (.tmp 126))), 0, []⟩])
(.seq
(.seq
(.ops [⟨(some 129), none, (.p (.bin .eql (.tmp 65) (.c (.int .i64 31)))), 0, []⟩,
⟨(some 128), none, (.p (.mv (.tmp 129))), 0, []⟩])
(.cond (.tmp 128)
.skip
(.ops [⟨(some 130), none, (.p (.bin .eql (.tmp 65) (.c (.int .i64 30)))), 0, []⟩,
⟨(some 128), none, (.p (.mv (.tmp 130))), 0, []⟩])))
(.cond (.tmp 128)
(.seq
(.seq
(.ops [⟨(some 131), none, (.p (.fieldAt 2 (.tmp 4))), 0, []⟩,
⟨(some 132), none, (.r (.load 1 false (.tmp 131))), 0, []⟩,
⟨(some 133), none, (.p (.bin .eql (.tmp 132) (.c (.int .i64 0)))), 0, []⟩])
(.cond (.tmp 133)
(.seq
(.ops [⟨(some 134), none, (.p (.mv (.tmp 0))), 0, []⟩,
⟨(some 135), none, (.p (.nilchk (.tmp 134))), 0, []⟩,
⟨(some 136), none, (.p (.fieldAt 3 (.tmp 135))), 0, []⟩,
⟨none, none, (.h (.store 1 (.tmp 136) (.c (.bool true)))), 0, []⟩])
.ret)
.skip))
(.seq
(.seq
(.ops [⟨(some 137), none, (.p (.fieldAt 0 (.tmp 5))), 0, []⟩,
⟨(some 138), none, (.r (.load 1 false (.tmp 137))), 0, []⟩,
⟨(some 139), none, (.p (.bin .eql (.tmp 138) (.c (.int .i64 31)))), 0, []⟩])
(.cond (.tmp 139)
(.seq
(.ops [⟨(some 140), none, (.p (.fieldAt 2 (.tmp 4))), 0, []⟩,
⟨(some 141), none, (.r (.load 1 false (.tmp 140))), 0, []⟩,
⟨(some 142), none, (.p (.bin .sub (.tmp 141) (.c (.int .i64 1)))), 0, []⟩,
⟨(some 143), none, (.p (.fieldAt 2 (.tmp 4))), 0, []⟩,
⟨none, none, (.h (.store 1 (.tmp 143) (.tmp 142))), 0, []⟩])
(.exit 0))
.skip))
(.seq
(.ops [⟨(some 144), none, (.p (.mv (.tmp 0))), 0, []⟩,
⟨(some 145), none, (.p (.fieldAt 1 (.tmp 5))), 0, []⟩,
⟨(some 146), none, (.r (.load 1 false (.tmp 145))), 0, []⟩,
⟨(some 147), none, (.r (.load 3 true (.tmp 4))), 0, []⟩,
⟨(some 148), none, (.h (.call (.c (.fn 44 [] [])) [(.tmp 144), (.tmp 146), (.tmp 147)])), 0, []⟩])
(.ops [⟨(some 149), none, (.p (.fieldAt 1 (.tmp 4))), 0, []⟩,
⟨(some 150), none, (.r (.load 1 false (.tmp 149))), 0, []⟩,
⟨(some 151), none, (.p (.bin .add (.tmp 150) (.c (.str [118])))), 0, []⟩,
⟨(some 152), none, (.p (.fieldAt 1 (.tmp 4))), 0, []⟩,
⟨none, none, (.h (.store 1 (.tmp 152) (.tmp 151))), 0, []⟩]))))
.skip))))))))))))))))
(.ops [⟨(some 153), none, (.p (.mv (.tmp 0))), 0, []⟩,
⟨(some 154), none, (.p (.mv (.tmp 1))), 0, []⟩,
⟨(some 155), none, (.p (.bin .add (.tmp 154) (.c (.int .i64 1)))), 0, []⟩,
⟨(some 156), none, (.r (.load 3 true (.tmp 4))), 0, []⟩,
⟨(some 157), none, (.h (.call (.c (.fn 44 [] [])) [(.tmp 153), (.tmp 155), (.tmp 156)])), 0, []⟩])))))))⟩
theorem c45 : Mir.compF Tryz.prog Tryz.f45 = some g45 := by kernel_rfl
/-- (*scribe/lex.lexer).next -/
def g48 : Mir.Fn := ⟨96, [(.tmp 2)],
(.seq
(.ops [⟨(some 2), none, (.p (.mv (.c (.int .i64 0)))), 0, []⟩])
(.seq
(.draw [⟨(some 4), none, (.p (.mv (.tmp 0))), 0, []⟩,
⟨(some 5), none, (.p (.nilchk (.tmp 4))), 1, []⟩,
⟨(some 6), none, (.p (.fieldAt 0 (.tmp 5))), 2, []⟩,
⟨(some 7), none, (.r (.load 1 false (.tmp 6))), 3, []⟩,
⟨(some 8), none, (.p (.mv (.tmp 0))), 4, []⟩,
⟨(some 9), none, (.p (.nilchk (.tmp 8))), 5, []⟩,
⟨(some 10), none, (.p (.fieldAt 1 (.tmp 9))), 6, []⟩,
⟨(some 11), none, (.r (.load 1 false (.tmp 10))), 7, []⟩,
⟨(some 12), none, (.p (.idxStr (.tmp 7) (.tmp 11))), 8, []⟩,
⟨(some 3), none, (.p (.mv (.tmp 12))), 9, []⟩])
(.seq
(.block 0 (.seq
(.seq
(.ops [⟨(some 16), none, (.p (.mv (.tmp 3))), 0, []⟩,
⟨(some 17), none, (.p (.bin .eql (.tmp 16) (.c (.int .u8 32)))), 0, []⟩,
⟨(some 15), none, (.p (.mv (.tmp 17))), 0, []⟩])
(.cond (.tmp 15)
.skip
(.seq
(.ops [⟨(some 18), none, (.p (.mv (.tmp 3))), 0, []⟩,
⟨(some 19), none, (.p (.bin .eql (.tmp 18) (.c (.int .u8 9)))), 0, []⟩,
⟨(some 15), none, (.p (.mv (.tmp 19))), 0, []⟩])
(.cond (.tmp 15)
.skip
(.ops [⟨(some 20), none, (.p (.mv (.tmp 3))), 0, []⟩,
⟨(some 21), none, (.p (.bin .eql (.tmp 20) (.c (.int .u8 13)))), 0, []⟩,
⟨(some 15), none, (.p (.mv (.tmp 21))), 0, []⟩])))))
(.cond (.tmp 15)
(.ops [⟨(some 22), none, (.p (.mv (.tmp 0))), 0, []⟩,
⟨(some 23), none, (.p (.nilchk (.tmp 22))), 0, []⟩,
⟨(some 24), none, (.p (.fieldAt 1 (.tmp 23))), 0, []⟩,
⟨(some 25), none, (.r (.load 1 false (.tmp 24))), 0, []⟩,
⟨(some 26), none, (.p (.bin .add (.tmp 25) (.c (.int .i64 1)))), 0, []⟩,
⟨(some 27), none, (.p (.nilchk (.tmp 22))), 0, []⟩,
⟨(some 28), none, (.p (.fieldAt 1 (.tmp 27))), 0, []⟩,
⟨none, none, (.h (.store 1 (.tmp 28) (.tmp 26))), 0, []⟩])
(.seq
(.ops [⟨(some 30), none, (.p (.mv (.tmp 3))), 0, []⟩,
⟨(some 31), none, (.p (.bin .eql (.tmp 30) (.c (.int .u8 35)))), 0, []⟩,
⟨(some 29), none, (.p (.mv (.tmp 31))), 0, []⟩])
(.cond (.tmp 29)
(.ops [⟨(some 32), none, (.p (.mv (.tmp 0))), 0, []⟩,
⟨(some 33), none, (.h (.call (.c (.fn 77 [] [])) [(.tmp 32), (.c (.fn 78 [] []))])), 0, []⟩])
(.seq
(.ops [⟨(some 35), none, (.p (.mv (.tmp 3))), 0, []⟩,
⟨(some 36), none, (.p (.bin .eql (.tmp 35) (.c (.int .u8 92)))), 0, []⟩,
⟨(some 37), none, (.p (.mv (.tmp 36))), 0, []⟩,
⟨(some 38), (some (37, true)), (.p (.mv (.tmp 0))), 0, []⟩,
⟨(some 39), (some (37, true)), (.h (.call (.c (.fn 79 [] [])) [(.tmp 38), (.c (.int .i64 1))])), 0, []⟩,
⟨(some 40), (some (37, true)), (.p (.bin .eql (.tmp 39) (.c (.int .u8 10)))), 0, []⟩,
⟨(some 41), none, (.p (.pick (.tmp 37) (.tmp 40) (.c (.bool false)))), 0, []⟩,
⟨(some 34), none, (.p (.mv (.tmp 41))), 0, []⟩])
(.cond (.tmp 34)
(.ops [⟨(some 42), none, (.p (.mv (.tmp 0))), 0, []⟩,
⟨(some 43), none, (.p (.nilchk (.tmp 42))), 0, []⟩,
⟨(some 44), none, (.p (.fieldAt 1 (.tmp 43))), 0, []⟩,
⟨(some 45), none, (.r (.load 1 false (.tmp 44))), 0, []⟩,
⟨(some 46), none, (.p (.bin .add (.tmp 45) (.c (.int .i64 2)))), 0, []⟩,
⟨(some 47), none, (.p (.nilchk (.tmp 42))), 0, []⟩,
⟨(some 48), none, (.p (.fieldAt 1 (.tmp 47))), 0, []⟩,
⟨none, none, (.h (.store 1 (.tmp 48) (.tmp 46))), 0, []⟩])
(.seq
(.ops [⟨(some 50), none, (.p (.mv (.tmp 3))), 0, []⟩,
⟨(some 51), none, (.p (.bin .eql (.tmp 50) (.c (.int .u8 10)))), 0, []⟩,
⟨(some 49), none, (.p (.mv (.tmp 51))), 0, []⟩])
(.cond (.tmp 49)
(.seq
(.ops [⟨(some 52), none, (.p (.mv (.tmp 0))), 0, []⟩,
⟨(some 53), none, (.p (.mv (.tmp 0))), 0, []⟩,
⟨(some 54), none, (.p (.nilchk (.tmp 53))), 0, []⟩,
⟨(some 55), none, (.p (.fieldAt 1 (.tmp 54))), 0, []⟩,
⟨(some 56), none, (.r (.load 1 false (.tmp 55))), 0, []⟩,
⟨(some 57), none, (.h (.call (.c (.fn 49 [] [])) [(.tmp 52), (.c (.int .i64 1)), (.c (.str [])), (.tmp 56)])), 0, []⟩])
(.ops [⟨(some 58), none, (.p (.mv (.tmp 0))), 0, []⟩,
⟨(some 59), none, (.p (.nilchk (.tmp 58))), 0, []⟩,
⟨(some 60), none, (.p (.fieldAt 1 (.tmp 59))), 0, []⟩,
⟨(some 61), none, (.r (.load 1 false (.tmp 60))), 0, []⟩,
⟨(some 62), none, (.p (.bin .add (.tmp 61) (.c (.int .i64 1)))), 0, []⟩,
⟨(some 63), none, (.p (.nilchk (.tmp 58))), 0, []⟩,
⟨(some 64), none, (.p (.fieldAt 1 (.tmp 63))), 0, []⟩,
⟨none, none, (.h (.store 1 (.tmp 64) (.tmp 62))), 0, []⟩]))
(.seq
(.seq
(.ops [⟨(some 66), none, (.p (.mv (.tmp 3))), 0, []⟩,
⟨(some 67), none, (.h (.call (.c (.fn 80 [] [])) [(.tmp 66)])), 0, []⟩,
⟨(some 65), none, (.p (.mv (.tmp 67))), 0, []⟩])
(.cond (.tmp 65)
.skip
(.ops [⟨(some 68), none, (.p (.mv (.tmp 3))), 0, []⟩,
⟨(some 69), none, (.p (.bin .eql (.tmp 68) (.c (.int .u8 46)))), 0, []⟩,
⟨(some 70), none, (.p (.mv (.tmp 69))), 0, []⟩,
⟨(some 71), (some (70, true)), (.p (.mv (.tmp 0))), 0, []⟩,
⟨(some 72), (some (70, true)), (.h (.call (.c (.fn 79 [] [])) [(.tmp 71), (.c (.int .i64 1))])), 0, []⟩,
⟨(some 73), (some (70, true)), (.h (.call (.c (.fn 80 [] [])) [(.tmp 72)])), 0, []⟩,
⟨(some 74), none, (.p (.pick (.tmp 70) (.tmp 73) (.c (.bool false)))), 0, []⟩,
⟨(some 65), none, (.p (.mv (.tmp 74))), 0, []⟩])))
(.cond (.tmp 65)
(.ops [⟨(some 75), none, (.p (.mv (.tmp 0))), 0, []⟩,
⟨(some 76), none, (.h (.call (.c (.fn 81 [] [])) [(.tmp 75)])), 0, []⟩])
(.seq
(.ops [⟨(some 78), none, (.p (.mv (.tmp 3))), 0, []⟩,
⟨(some 79), none, (.h (.call (.c (.fn 82 [] [])) [(.tmp 78)])), 0, []⟩,
⟨(some 77), none, (.p (.mv (.tmp 79))), 0, []⟩])
(.cond (.tmp 77)
(.ops [⟨(some 80), none, (.p (.mv (.tmp 0))), 0, []⟩,
⟨(some 81), none, (.h (.call (.c (.fn 83 [] [])) [(.tmp 80)])), 0, []⟩])
(.seq
(.ops [⟨(some 83), none, (.p (.mv (.tmp 3))), 0, []⟩,
⟨(some 84), none, (.p (.bin .eql (.tmp 83) (.c (.int .u8 34)))), 0, []⟩,
⟨(some 82), none, (.p (.mv (.tmp 84))), 0, []⟩])
(.cond (.tmp 82)
(.seq
(.ops [⟨(some 85), none, (.p (.mv (.tmp 0))), 0, []⟩,
⟨(some 86), none, (.h (.call (.c (.fn 84 [] [])) [(.tmp 85), (.c (.int .i64 3)), (.c (.int .u8 34)), (.c (.fn 85 [] []))])), 0, []⟩,
⟨(some 2), none, (.p (.mv (.tmp 86))), 0, []⟩])
.ret)
(.seq
(.ops [⟨(some 88), none, (.p (.mv (.tmp 3))), 0, []⟩,
⟨(some 89), none, (.p (.bin .eql (.tmp 88) (.c (.int .u8 47)))), 0, []⟩,
⟨(some 90), none, (.p (.mv (.tmp 89))), 0, []⟩,
⟨(some 91), (some (90, true)), (.p (.mv (.tmp 0))), 0, []⟩,
⟨(some 92), (some (90, true)), (.h (.call (.c (.fn 86 [] [])) [(.tmp 91)])), 0, []⟩,
⟨(some 93), none, (.p (.pick (.tmp 90) (.tmp 92) (.c (.bool false)))), 0, []⟩,
⟨(some 87), none, (.p (.mv (.tmp 93))), 0, []⟩])
(.cond (.tmp 87)
(.seq
(.ops [⟨(some 94), none, (.p (.mv (.tmp 0))), 0, []⟩,
⟨(some 95), none, (.h (.call (.c (.fn 84 [] [])) [(.tmp 94), (.c (.int .i64 4)), (.c (.int .u8 47)), (.c (.fn 87 [] []))])), 0, []⟩,
⟨(some 2), none, (.p (.mv (.tmp 95))), 0, []⟩])
.ret)
(.seq
(.ops [⟨(some 13), none, (.p (.mv (.tmp 0))), 0, []⟩,
⟨(some 14), none, (.h (.call (.c (.fn 88 [] [])) [(.tmp 13)])), 0, []⟩,
⟨(some 2), none, (.p (.mv (.tmp 14))), 0, []⟩])
.ret))))))))))))))))))
(.seq
(.ops [⟨(some 2), none, (.p (.mv (.c (.int .i64 0)))), 0, []⟩])
.ret))))⟩
theorem c48 : Mir.compF Tryz.prog Tryz.f48 = some g48 := by kernel_rfl
/-- (*scribe/lex.lexer).put -/
def g49 : Mir.Fn := ⟨21, [],
(.ops [⟨(some 8), none, (.p (.mv (.tmp 0))), 0, []⟩,
⟨(some 9), none, (.p (.mv (.tmp 0))), 0, []⟩,
⟨(some 10), none, (.p (.nilchk (.tmp 9))), 0, []⟩,
⟨(some 11), none, (.p (.fieldAt 2 (.tmp 10))), 0, []⟩,
⟨(some 12), none, (.r (.load 1 false (.tmp 11))), 0, []⟩,
⟨(some 13), none, (.p (.mv (.tmp 1))), 0, []⟩,
⟨(some 14), none, (.p (.mv (.tmp 2))), 0, []⟩,
⟨(some 15), none, (.p (.mv (.tmp 3))), 0, []⟩,
⟨(some 16), none, (.p (.build [(.int .i64 0), (.str []), (.int .i64 0)] [(0, (1, (.tmp 13))), (1, (1, (.tmp 14))), (2, (1, (.tmp 15)))])), 0, []⟩,
⟨(some 17), none, (.a (.mkSl [(.int .i64 0), (.str []), (.int .i64 0)] 3 1 [(0, (3, (.tmp 16)))])), 0, []⟩,
⟨(some 18), none, (.h (.app 3 32 (.tmp 12) (.tmp 17))), 0, []⟩,
⟨(some 19), none, (.p (.nilchk (.tmp 8))), 0, []⟩,
⟨(some 20), none, (.p (.fieldAt 2 (.tmp 19))), 0, []⟩,
⟨none, none, (.h (.store 1 (.tmp 20) (.tmp 18))), 0, []⟩])⟩
theorem c49 : Mir.compF Tryz.prog Tryz.f49 = some g49 := by kernel_rfl
/-- slices.Contains[[]string,string] -/
def g50 : Mir.Fn := ⟨9, [(.tmp 4)],
(.seq
(.ops [⟨(some 4), none, (.p (.mv (.c (.bool false)))), 0, []⟩])
(.seq
(.ops [⟨(some 5), none, (.p (.mv (.tmp 0))), 0, []⟩,
⟨(some 6), none, (.p (.mv (.tmp 1))), 0, []⟩,
⟨(some 7), none, (.h (.call (.c (.fn 89 [] [])) [(.tmp 5), (.tmp 6)])), 0, []⟩,
⟨(some 8), none, (.p (.bin .geq (.tmp 7) (.c (.int .i64 0)))), 0, []⟩,
⟨(some 4), none, (.p (.mv (.tmp 8))), 0, []⟩])
.ret))⟩
theorem c50 : Mir.compF Tryz.prog Tryz.f50 = some g50 := by kernel_rfl
/-- (*scribe/parse.parser).accept -/
def g51 : Mir.Fn := ⟨12, [(.tmp 4)],
(.seq
(.ops [⟨(some 4), none, (.p (.mv (.c (.bool false)))), 0, []⟩])
(.seq
(.seq
(.ops [⟨(some 5), none, (.p (.mv (.tmp 0))), 0, []⟩,
⟨(some 6), none, (.p (.mv (.tmp 1))), 0, []⟩,
⟨(some 7), none, (.a (.mkSl [(.str [])] 1 1 [(0, (1, (.tmp 6)))])), 0, []⟩,
⟨(some 8), none, (.h (.call (.c (.fn 29 [] [])) [(.tmp 5), (.tmp 7)])), 0, []⟩,
⟨(some 9), none, (.p (.un .not (.tmp 8))), 0, []⟩])
(.cond (.tmp 9)
(.seq
(.ops [⟨(some 4), none, (.p (.mv (.c (.bool false)))), 0, []⟩])
.ret)
.skip))
(.seq
(.ops [⟨(some 10), none, (.p (.mv (.tmp 0))), 0, []⟩,
⟨(some 11), none, (.h (.call (.c (.fn 31 [] [])) [(.tmp 10)])), 0, []⟩])
(.seq
(.ops [⟨(some 4), none, (.p (.mv (.c (.bool true)))), 0, []⟩])
.ret))))⟩
theorem c51 : Mir.compF Tryz.prog Tryz.f51 = some g51 := by kernel_rfl
/-- (*scribe/parse.parser).block -/
def g52 : Mir.Fn := ⟨33, [(.cell 2 4 true)],
(.seq
(.ops [⟨(some 2), none, (.a (.alloc [(.str []), (.str []), (.int .i64 0), .nilsl])), 0, []⟩])
(.seq
(.ops [⟨(some 4), none, (.h (.call (.c (.fn 28 [] [])) [(.c (.str [98, 108, 111, 99, 107])), (.c .nilsl)])), 0, []⟩,
⟨(some 3), none, (.a (.alloc [(.str []), (.str []), (.int .i64 0), .nilsl])), 0, []⟩,
⟨none, none, (.h (.store 4 (.tmp 3) (.tmp 4))), 0, []⟩])
(.seq
(.ops [⟨(some 5), none, (.p (.mv (.tmp 0))), 0, []⟩,
⟨(some 6), none, (.h (.call (.c (.fn 55 [] [])) [(.tmp 5), (.c (.str [123]))])), 0, []⟩])
(.seq
(.block 0 (.loop (.seq
(.seq
(.ops [⟨(some 7), none, (.p (.mv (.tmp 0))), 0, []⟩,
⟨(some 8), none, (.p (.nilchk (.tmp 7))), 0, []⟩,
⟨(some 9), none, (.p (.fieldAt 4 (.tmp 8))), 0, []⟩,
⟨(some 10), none, (.r (.load 1 false (.tmp 9))), 0, []⟩,
⟨(some 11), none, (.p (.bin .eql (.tmp 10) (.c (.int .i64 0)))), 0, []⟩])
(.cond (.tmp 11)
.skip
(.exit 0)))
(.block 1 (.seq
(.block 2 (.loop (.seq
(.seq
(.ops [⟨(some 12), none, (.p (.mv (.tmp 0))), 0, []⟩,
⟨(some 13), none, (.a (.mkSl [(.str [])] 1 1 [(0, (1, (.c (.str [59]))))])), 0, []⟩,
⟨(some 14), none, (.h (.call (.c (.fn 29 [] [])) [(.tmp 12), (.tmp 13)])), 0, []⟩,
⟨(some 15), none, (.p (.mv (.tmp 14))), 0, []⟩,
⟨(some 16), (some (15, false)), (.p (.mv (.tmp 0))), 0, []⟩,
⟨(some 17), (some (15, false)), (.h (.call (.c (.fn 30 [] [])) [(.tmp 16)])), 0, []⟩,
⟨(some 18), (some (15, false)), (.p (.field 0 1 false (.tmp 17))), 0, []⟩,
⟨(some 19), (some (15, false)), (.p (.bin .eql (.tmp 18) (.c (.int .i64 1)))), 0, []⟩,
⟨(some 20), none, (.p (.pick (.tmp 15) (.c (.bool true)) (.tmp 19))), 0, []⟩])
(.cond (.tmp 20)
.skip
(.exit 2)))
(.block 3 (.ops [⟨(some 21), none, (.p (.mv (.tmp 0))), 0, []⟩,
⟨(some 22), none, (.h (.call (.c (.fn 31 [] [])) [(.tmp 21)])), 0, []⟩])))))
(.seq
(.seq
(.ops [⟨(some 23), none, (.p (.mv (.tmp 0))), 0, []⟩,
⟨(some 24), none, (.h (.call (.c (.fn 51 [] [])) [(.tmp 23), (.c (.str [125]))])), 0, []⟩])
(.cond (.tmp 24)
(.exit 0)
.skip))
(.draw [⟨(some 25), none, (.p (.fieldAt 3 (.tmp 3))), 0, []⟩,
⟨(some 26), none, (.r (.load 1 false (.tmp 25))), 1, []⟩,
⟨(some 27), none, (.p (.mv (.tmp 0))), 2, []⟩,
⟨(some 28), none, (.h (.call (.c (.fn 90 [] [])) [(.tmp 27)])), 3, [1]⟩,
⟨(some 29), none, (.a (.mkSl [(.str []), (.str []), (.int .i64 0), .nilsl] 4 1 [(0, (4, (.tmp 28)))])), 4, []⟩,
⟨(some 30), none, (.h (.app 4 64 (.tmp 26) (.tmp 29))), 5, []⟩,
⟨(some 31), none, (.p (.fieldAt 3 (.tmp 3))), 6, []⟩,
⟨none, none, (.h (.store 1 (.tmp 31) (.tmp 30))), 7, []⟩])))))))
(.seq
(.ops [⟨(some 32), none, (.r (.load 4 true (.tmp 3))), 0, []⟩,
⟨none, none, (.h (.store 4 (.tmp 2) (.tmp 32))), 0, []⟩])
.ret)))))⟩
theorem c52 : Mir.compF Tryz.prog Tryz.f52 = some g52 := by kernel_rfl
/-- scribe/parse.leaf -/
def g53 : Mir.Fn := ⟨14, [(.cell 6 4 true)],
(.seq
(.ops [⟨(some 4), none, (.a (.box (.tmp 1))), 0, []⟩,
⟨(some 6), none, (.a (.alloc [(.str []), (.str []), (.int .i64 0), .nilsl])), 0, []⟩])
(.seq
(.ops [⟨(some 7), none, (.p (.mv (.tmp 0))), 0, []⟩,
⟨(some 8), none, (.p (.fieldAt 1 (.tmp 4))), 0, []⟩,
⟨(some 9), none, (.r (.load 1 false (.tmp 8))), 0, []⟩,
⟨(some 10), none, (.p (.fieldAt 2 (.tmp 4))), 0, []⟩,
⟨(some 11), none, (.r (.load 1 false (.tmp 10))), 0, []⟩,
⟨(some 12), none, (.p (.mv (.tmp 2))), 0, []⟩,
⟨(some 13), none, (.p (.build [(.str []), (.str []), (.int .i64 0), .nilsl] [(0, (1, (.tmp 7))), (1, (1, (.tmp 9))), (2, (1, (.tmp 11))), (3, (1, (.tmp 12)))])), 0, []⟩,
⟨none, none, (.h (.store 4 (.tmp 6) (.tmp 13))), 0, []⟩])
.ret))⟩
theorem c53 : Mir.compF Tryz.prog Tryz.f53 = some g53 := by kernel_rfl
/-- (*scribe/parse.parser).name -/
def g54 : Mir.Fn := ⟨19, [(.cell 4 3 true)],
(.seq
(.ops [⟨(some 4), none, (.a (.alloc [(.int .i64 0), (.str []), (.int .i64 0)])), 0, []⟩])
(.seq
(.ops [⟨(some 6), none, (.p (.mv (.tmp 0))), 0, []⟩,
⟨(some 7), none, (.h (.call (.c (.fn 30 [] [])) [(.tmp 6)])), 0, []⟩,
⟨(some 5), none, (.a (.alloc [(.int .i64 0), (.str []), (.int .i64 0)])), 0, []⟩,
⟨none, none, (.h (.store 3 (.tmp 5) (.tmp 7))), 0, []⟩])
(.seq
(.seq
(.ops [⟨(some 8), none, (.p (.mv (.tmp 1))), 0, []⟩,
⟨(some 9), none, (.p (.fieldAt 0 (.tmp 5))), 0, []⟩,
⟨(some 10), none, (.r (.load 1 false (.tmp 9))), 0, []⟩,
⟨(some 11), none, (.h (.call (.c (.fn 91 [] [])) [(.tmp 8), (.tmp 10)])), 0, []⟩,
⟨(some 12), none, (.p (.un .not (.tmp 11))), 0, []⟩])
(.cond (.tmp 12)
(.seq
(.ops [⟨(some 13), none, (.p (.mv (.tmp 0))), 0, []⟩,
⟨(some 14), none, (.h (.call (.c (.fn 58 [] [])) [(.tmp 13)])), 0, []⟩])
(.seq
(.ops [⟨(some 15), none, (.p (.build [(.int .i64 0), (.str []), (.int .i64 0)] [])), 0, []⟩,
⟨none, none, (.h (.store 3 (.tmp 4) (.tmp 15))), 0, []⟩])
.ret))
.skip))
(.seq
(.ops [⟨(some 16), none, (.p (.mv (.tmp 0))), 0, []⟩,
⟨(some 17), none, (.h (.call (.c (.fn 31 [] [])) [(.tmp 16)])), 0, []⟩])
(.seq
(.ops [⟨(some 18), none, (.r (.load 3 true (.tmp 5))), 0, []⟩,
⟨none, none, (.h (.store 3 (.tmp 4) (.tmp 18))), 0, []⟩])
.ret)))))⟩
theorem c54 : Mir.compF Tryz.prog Tryz.f54 = some g54 := by kernel_rfl
/-- (*scribe/parse.parser).expect -/
def g55 : Mir.Fn := ⟨10, [],
(.seq
(.ops [⟨(some 4), none, (.p (.mv (.tmp 0))), 0, []⟩,
⟨(some 5), none, (.p (.mv (.tmp 1))), 0, []⟩,
⟨(some 6), none, (.h (.call (.c (.fn 51 [] [])) [(.tmp 4), (.tmp 5)])), 0, []⟩,
⟨(some 7), none, (.p (.un .not (.tmp 6))), 0, []⟩])
(.cond (.tmp 7)
(.ops [⟨(some 8), none, (.p (.mv (.tmp 0))), 0, []⟩,
⟨(some 9), none, (.h (.call (.c (.fn 58 [] [])) [(.tmp 8)])), 0, []⟩])
.skip))⟩
theorem c55 : Mir.compF Tryz.prog Tryz.f55 = some g55 := by kernel_rfl
/-- (*scribe/parse.parser).lines -/
def g56 : Mir.Fn := ⟨8, [],
(.block 0 (.loop (.seq
(.seq
(.ops [⟨(some 2), none, (.p (.mv (.tmp 0))), 0, []⟩,
⟨(some 3), none, (.h (.call (.c (.fn 30 [] [])) [(.tmp 2)])), 0, []⟩,
⟨(some 4), none, (.p (.field 0 1 false (.tmp 3))), 0, []⟩,
⟨(some 5), none, (.p (.bin .eql (.tmp 4) (.c (.int .i64 1)))), 0, []⟩])
(.cond (.tmp 5)
.skip
(.exit 0)))
(.block 1 (.ops [⟨(some 6), none, (.p (.mv (.tmp 0))), 0, []⟩,
⟨(some 7), none, (.h (.call (.c (.fn 31 [] [])) [(.tmp 6)])), 0, []⟩])))))⟩
theorem c56 : Mir.compF Tryz.prog Tryz.f56 = some g56 := by kernel_rfl
end Go.Proofs.YtipnnfmgecbefaaGreatDoor
