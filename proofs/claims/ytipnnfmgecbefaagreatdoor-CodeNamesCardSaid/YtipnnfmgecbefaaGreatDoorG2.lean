/- The mirror's code of the seat's functions; printed by KPrint. -/
import Derived.Test.YtipnnfmgecbefaaGreatDoorG1
namespace Go.Proofs.YtipnnfmgecbefaaGreatDoor
/-- (*scribe/parse.parser).expr -/
def g57 : Mir.Fn := ⟨56, [(.cell 2 4 true)],
(.seq
(.ops [⟨(some 2), none, (.a (.alloc [(.str []), (.str []), (.int .i64 0), .nilsl])), 0, []⟩])
(.seq
(.ops [⟨(some 6), none, (.p (.mv (.tmp 0))), 0, []⟩,
⟨(some 7), none, (.h (.call (.c (.fn 92 [] [])) [(.tmp 6)])), 0, []⟩])
(.seq
(.ops [⟨(some 8), none, (.p (.mv (.tmp 0))), 0, []⟩,
⟨none, none, (.h (.dfr (.c (.fn 93 [] [])) [(.tmp 8)])), 0, []⟩])
(.seq
(.ops [⟨(some 9), none, (.p (.mv (.tmp 0))), 0, []⟩,
⟨(some 10), none, (.h (.call (.c (.fn 94 [] [])) [(.tmp 9)])), 0, []⟩,
⟨(some 3), none, (.a (.alloc [(.str []), (.str []), (.int .i64 0), .nilsl])), 0, []⟩,
⟨none, none, (.h (.store 4 (.tmp 3) (.tmp 10))), 0, []⟩])
(.seq
(.seq
(.ops [⟨(some 11), none, (.p (.mv (.tmp 0))), 0, []⟩,
⟨(some 12), none, (.h (.call (.c (.fn 51 [] [])) [(.tmp 11), (.c (.str [63]))])), 0, []⟩])
(.cond (.tmp 12)
(.seq
(.ops [⟨(some 13), none, (.p (.mv (.tmp 0))), 0, []⟩,
⟨(some 14), none, (.h (.call (.c (.fn 56 [] [])) [(.tmp 13)])), 0, []⟩])
(.seq
(.ops [⟨(some 15), none, (.p (.mv (.tmp 0))), 0, []⟩,
⟨(some 16), none, (.h (.call (.c (.fn 57 [] [])) [(.tmp 15)])), 0, []⟩,
⟨(some 4), none, (.a (.alloc [(.str []), (.str []), (.int .i64 0), .nilsl])), 0, []⟩,
⟨none, none, (.h (.store 4 (.tmp 4) (.tmp 16))), 0, []⟩])
(.seq
(.ops [⟨(some 17), none, (.p (.mv (.tmp 0))), 0, []⟩,
⟨(some 18), none, (.h (.call (.c (.fn 56 [] [])) [(.tmp 17)])), 0, []⟩])
(.seq
(.ops [⟨(some 19), none, (.p (.mv (.tmp 0))), 0, []⟩,
⟨(some 20), none, (.h (.call (.c (.fn 55 [] [])) [(.tmp 19), (.c (.str [58]))])), 0, []⟩])
(.seq
(.ops [⟨(some 21), none, (.p (.mv (.tmp 0))), 0, []⟩,
⟨(some 22), none, (.h (.call (.c (.fn 56 [] [])) [(.tmp 21)])), 0, []⟩])
(.seq
(.draw [⟨(some 23), none, (.r (.load 4 true (.tmp 3))), 0, []⟩,
⟨(some 24), none, (.r (.load 4 true (.tmp 4))), 1, []⟩,
⟨(some 25), none, (.p (.mv (.tmp 0))), 2, []⟩,
⟨(some 26), none, (.h (.call (.c (.fn 57 [] [])) [(.tmp 25)])), 3, [0, 1]⟩,
⟨(some 27), none, (.a (.mkSl [(.str []), (.str []), (.int .i64 0), .nilsl] 4 3 [(0, (4, (.tmp 23))), (4, (4, (.tmp 24))), (8, (4, (.tmp 26)))])), 4, []⟩,
⟨(some 28), none, (.h (.call (.c (.fn 28 [] [])) [(.c (.str [99, 111, 110, 100])), (.tmp 27)])), 5, []⟩,
⟨none, none, (.h (.store 4 (.tmp 2) (.tmp 28))), 6, []⟩])
.ret))))))
.skip))
(.seq
(.seq
(.ops [⟨(some 29), none, (.p (.mv (.tmp 0))), 0, []⟩,
⟨(some 30), none, (.h (.call (.c (.fn 30 [] [])) [(.tmp 29)])), 0, []⟩,
⟨(some 5), none, (.a (.alloc [(.int .i64 0), (.str []), (.int .i64 0)])), 0, []⟩,
⟨none, none, (.h (.store 3 (.tmp 5) (.tmp 30))), 0, []⟩])
(.seq
(.ops [⟨(some 31), none, (.r (.load 4 true (.tmp 3))), 0, []⟩,
⟨(some 32), none, (.h (.call (.c (.fn 95 [] [])) [(.tmp 31)])), 0, []⟩,
⟨(some 33), none, (.p (.mv (.tmp 32))), 0, []⟩,
⟨(some 34), (some (33, true)), (.p (.fieldAt 0 (.tmp 5))), 0, []⟩,
⟨(some 35), (some (33, true)), (.r (.load 1 false (.tmp 34))), 0, []⟩,
⟨(some 36), (some (33, true)), (.p (.bin .eql (.tmp 35) (.c (.int .i64 8)))), 0, []⟩,
⟨(some 37), none, (.p (.pick (.tmp 33) (.tmp 36) (.c (.bool false)))), 0, []⟩,
⟨(some 38), none, (.p (.mv (.tmp 37))), 0, []⟩,
⟨(some 39), (some (38, true)), (.a (.mkSl [(.str [])] 1 6 [(0, (1, (.c (.str [61])))), (1, (1, (.c (.str [43, 61])))), (2, (1, (.c (.str [45, 61])))), (3, (1, (.c (.str [42, 61])))), (4, (1, (.c (.str [47, 61])))), (5, (1, (.c (.str [37, 61]))))])), 0, []⟩,
⟨(some 40), (some (38, true)), (.p (.fieldAt 1 (.tmp 5))), 0, []⟩,
⟨(some 41), (some (38, true)), (.r (.load 1 false (.tmp 40))), 0, []⟩,
⟨(some 42), (some (38, true)), (.h (.call (.c (.fn 50 [] [])) [(.tmp 39), (.tmp 41)])), 0, []⟩,
⟨(some 43), none, (.p (.pick (.tmp 38) (.tmp 42) (.c (.bool false)))), 0, []⟩])
(.cond (.tmp 43)
(.seq
(.ops [⟨(some 44), none, (.p (.mv (.tmp 0))), 0, []⟩,
⟨(some 45), none, (.h (.call (.c (.fn 31 [] [])) [(.tmp 44)])), 0, []⟩])
(.seq
(.ops [⟨(some 46), none, (.p (.mv (.tmp 0))), 0, []⟩,
⟨(some 47), none, (.h (.call (.c (.fn 56 [] [])) [(.tmp 46)])), 0, []⟩])
(.seq
(.draw [⟨(some 48), none, (.p (.fieldAt 1 (.tmp 5))), 0, []⟩,
⟨(some 49), none, (.r (.load 1 false (.tmp 48))), 1, []⟩,
⟨(some 50), none, (.r (.load 4 true (.tmp 3))), 2, []⟩,
⟨(some 51), none, (.p (.mv (.tmp 0))), 3, []⟩,
⟨(some 52), none, (.h (.call (.c (.fn 57 [] [])) [(.tmp 51)])), 4, [1, 2]⟩,
⟨(some 53), none, (.a (.mkSl [(.str []), (.str []), (.int .i64 0), .nilsl] 4 2 [(0, (4, (.tmp 50))), (4, (4, (.tmp 52)))])), 5, []⟩,
⟨(some 54), none, (.p (.build [(.str []), (.str []), (.int .i64 0), .nilsl] [(0, (1, (.c (.str [97, 115, 115, 105, 103, 110])))), (1, (1, (.tmp 49))), (3, (1, (.tmp 53)))])), 6, []⟩,
⟨none, none, (.h (.store 4 (.tmp 2) (.tmp 54))), 7, []⟩])
.ret)))
.skip)))
(.seq
(.ops [⟨(some 55), none, (.r (.load 4 true (.tmp 3))), 0, []⟩,
⟨none, none, (.h (.store 4 (.tmp 2) (.tmp 55))), 0, []⟩])
.ret)))))))⟩
theorem c57 : Mir.compF Tryz.prog Tryz.f57 = some g57 := by kernel_rfl
/-- (*scribe/parse.parser).fail -/
def g58 : Mir.Fn := ⟨39, [],
(.seq
(.ops [⟨(some 3), none, (.p (.mv (.tmp 0))), 0, []⟩,
⟨(some 4), none, (.h (.call (.c (.fn 30 [] [])) [(.tmp 3)])), 0, []⟩,
⟨(some 2), none, (.a (.alloc [(.int .i64 0), (.str []), (.int .i64 0)])), 0, []⟩,
⟨none, none, (.h (.store 3 (.tmp 2) (.tmp 4))), 0, []⟩])
(.block 0 (.seq
(.ops [⟨(some 14), none, (.p (.mv (.tmp 0))), 0, []⟩,
⟨(some 15), none, (.p (.nilchk (.tmp 14))), 0, []⟩,
⟨(some 16), none, (.p (.fieldAt 4 (.tmp 15))), 0, []⟩,
⟨(some 17), none, (.r (.load 1 false (.tmp 16))), 0, []⟩,
⟨(some 18), none, (.p (.bin .neq (.tmp 17) (.c (.int .i64 0)))), 0, []⟩,
⟨(some 13), none, (.p (.mv (.tmp 18))), 0, []⟩])
(.cond (.tmp 13)
.skip
(.seq
(.seq
(.ops [⟨(some 20), none, (.p (.fieldAt 0 (.tmp 2))), 0, []⟩,
⟨(some 21), none, (.r (.load 1 false (.tmp 20))), 0, []⟩,
⟨(some 22), none, (.p (.bin .eql (.tmp 21) (.c (.int .i64 10)))), 0, []⟩,
⟨(some 19), none, (.p (.mv (.tmp 22))), 0, []⟩])
(.cond (.tmp 19)
.skip
(.ops [⟨(some 23), none, (.p (.fieldAt 0 (.tmp 2))), 0, []⟩,
⟨(some 24), none, (.r (.load 1 false (.tmp 23))), 0, []⟩,
⟨(some 25), none, (.p (.bin .eql (.tmp 24) (.c (.int .i64 8)))), 0, []⟩,
⟨(some 26), none, (.p (.mv (.tmp 25))), 0, []⟩,
⟨(some 27), (some (26, true)), (.p (.fieldAt 1 (.tmp 2))), 0, []⟩,
⟨(some 28), (some (26, true)), (.r (.load 1 false (.tmp 27))), 0, []⟩,
⟨(some 29), (some (26, true)), (.p (.bin .eql (.tmp 28) (.c (.str [124])))), 0, []⟩,
⟨(some 30), none, (.p (.pick (.tmp 26) (.tmp 29) (.c (.bool false)))), 0, []⟩,
⟨(some 19), none, (.p (.mv (.tmp 30))), 0, []⟩])))
(.cond (.tmp 19)
(.draw [⟨(some 31), none, (.p (.mv (.tmp 0))), 0, []⟩,
⟨(some 32), none, (.p (.mv (.tmp 0))), 1, []⟩,
⟨(some 33), none, (.p (.fieldAt 2 (.tmp 2))), 2, []⟩,
⟨(some 34), none, (.r (.load 1 false (.tmp 33))), 3, []⟩,
⟨(some 35), none, (.p (.nilchk (.tmp 31))), 4, []⟩,
⟨(some 36), none, (.p (.fieldAt 4 (.tmp 35))), 5, []⟩,
⟨none, none, (.h (.store 1 (.tmp 36) (.c (.int .i64 10)))), 6, [3]⟩,
⟨(some 37), none, (.p (.nilchk (.tmp 32))), 7, []⟩,
⟨(some 38), none, (.p (.fieldAt 5 (.tmp 37))), 8, []⟩,
⟨none, none, (.h (.store 1 (.tmp 38) (.tmp 34))), 9, []⟩])
(.draw [⟨(some 5), none, (.p (.mv (.tmp 0))), 0, []⟩,
⟨(some 6), none, (.p (.mv (.tmp 0))), 1, []⟩,
⟨(some 7), none, (.p (.fieldAt 2 (.tmp 2))), 2, []⟩,
⟨(some 8), none, (.r (.load 1 false (.tmp 7))), 3, []⟩,
⟨(some 9), none, (.p (.nilchk (.tmp 5))), 4, []⟩,
⟨(some 10), none, (.p (.fieldAt 4 (.tmp 9))), 5, []⟩,
⟨none, none, (.h (.store 1 (.tmp 10) (.c (.int .i64 9)))), 6, [3]⟩,
⟨(some 11), none, (.p (.nilchk (.tmp 6))), 7, []⟩,
⟨(some 12), none, (.p (.fieldAt 5 (.tmp 11))), 8, []⟩,
⟨none, none, (.h (.store 1 (.tmp 12) (.tmp 8))), 9, []⟩])))))))⟩
theorem c58 : Mir.compF Tryz.prog Tryz.f58 = some g58 := by kernel_rfl
/-- (*scribe/resolve.resolver).mark$1 -/
def g59 : Mir.Fn := ⟨18, [],
(.seq
(.ops [⟨(some 3), none, (.a (.box (.tmp 0))), 0, []⟩])
(.seq
(.draw [⟨(some 4), none, (.r (.load 1 false (.tmp 1))), 0, []⟩,
⟨(some 5), none, (.p (.nilchk (.tmp 4))), 1, []⟩,
⟨(some 6), none, (.p (.fieldAt 2 (.tmp 5))), 2, []⟩,
⟨(some 7), none, (.r (.load 1 false (.tmp 6))), 3, []⟩,
⟨(some 8), none, (.r (.load 2 true (.tmp 3))), 4, []⟩,
⟨(some 9), none, (.r (.lookup (.agg [.int, .str]) (.bool false) false (.tmp 7) (.tmp 8))), 5, []⟩,
⟨(some 10), none, (.p (.un .not (.tmp 9))), 6, []⟩])
(.cond (.tmp 10)
(.draw [⟨(some 11), none, (.r (.load 1 false (.tmp 1))), 0, []⟩,
⟨(some 12), none, (.p (.nilchk (.tmp 11))), 1, []⟩,
⟨(some 13), none, (.p (.fieldAt 2 (.tmp 12))), 2, []⟩,
⟨(some 14), none, (.r (.load 1 false (.tmp 13))), 3, []⟩,
⟨(some 15), none, (.r (.load 2 true (.tmp 3))), 4, []⟩,
⟨(some 16), none, (.h (.mapEntry (.agg [.int, .str]) (.bool false) (.tmp 14) (.tmp 15))), 5, []⟩,
⟨(some 17), none, (.p (.ext (.tmp 16) 1)), 6, []⟩,
⟨none, none, (.h (.entryStore (.tmp 14) (.tmp 17) (.c (.bool true)))), 7, []⟩,
⟨none, none, (.h (.store 1 (.tmp 2) (.c (.bool true)))), 8, []⟩])
.skip)))⟩
theorem c59 : Mir.compF Tryz.prog Tryz.f59 = some g59 := by kernel_rfl
/-- (*scribe/resolve.resolver).fn -/
def g60 : Mir.Fn := ⟨15, [(.tmp 4)],
(.seq
(.ops [⟨(some 3), none, (.a (.box (.tmp 1))), 0, []⟩,
⟨(some 4), none, (.p (.mv (.c (.int .i64 0)))), 0, []⟩])
(.seq
(.seq
(.ops [⟨(some 5), none, (.p (.fieldAt 0 (.tmp 3))), 0, []⟩,
⟨(some 6), none, (.r (.load 1 false (.tmp 5))), 0, []⟩,
⟨(some 7), none, (.p (.bin .eql (.tmp 6) (.c (.str [102, 117, 110, 99])))), 0, []⟩])
(.cond (.tmp 7)
(.seq
(.draw [⟨(some 8), none, (.p (.mv (.tmp 0))), 0, []⟩,
⟨(some 9), none, (.p (.nilchk (.tmp 8))), 1, []⟩,
⟨(some 10), none, (.p (.fieldAt 0 (.tmp 9))), 2, []⟩,
⟨(some 11), none, (.r (.load 1 false (.tmp 10))), 3, []⟩,
⟨(some 12), none, (.p (.fieldAt 1 (.tmp 3))), 4, []⟩,
⟨(some 13), none, (.r (.load 1 false (.tmp 12))), 5, []⟩,
⟨(some 14), none, (.r (.lookup (.one .str) (.int .i64 0) false (.tmp 11) (.tmp 13))), 6, []⟩,
⟨(some 4), none, (.p (.mv (.tmp 14))), 7, []⟩])
.ret)
.skip))
(.seq
(.ops [⟨(some 4), none, (.p (.mv (.c (.int .i64 (-1))))), 0, []⟩])
.ret)))⟩
theorem c60 : Mir.compF Tryz.prog Tryz.f60 = some g60 := by kernel_rfl
/-- scribe/ast.All -/
def g61 : Mir.Fn := ⟨4, [(.tmp 2)],
(.seq
(.ops [⟨(some 1), none, (.a (.box (.tmp 0))), 0, []⟩,
⟨(some 2), none, (.p (.mv (.c .nilfn))), 0, []⟩])
(.seq
(.ops [⟨(some 3), none, (.p (.mkFn 96 [] [(.tmp 1)])), 0, []⟩,
⟨(some 2), none, (.p (.mv (.tmp 3))), 0, []⟩])
.ret))⟩
theorem c61 : Mir.compF Tryz.prog Tryz.f61 = some g61 := by kernel_rfl
/-- scribe/resolve.arrayName -/
def g62 : Mir.Fn := ⟨12, [(.tmp 2), (.tmp 3)],
(.seq
(.ops [⟨(some 1), none, (.a (.box (.tmp 0))), 0, []⟩,
⟨(some 2), none, (.p (.mv (.c (.str [])))), 0, []⟩,
⟨(some 3), none, (.p (.mv (.c (.bool false)))), 0, []⟩])
(.seq
(.seq
(.ops [⟨(some 4), none, (.p (.fieldAt 0 (.tmp 1))), 0, []⟩,
⟨(some 5), none, (.r (.load 1 false (.tmp 4))), 0, []⟩])
(.block 0 (.seq
(.seq
(.ops [⟨(some 7), none, (.p (.bin .eql (.tmp 5) (.c (.str [105, 110, 100, 101, 120])))), 0, []⟩,
⟨(some 6), none, (.p (.mv (.tmp 7))), 0, []⟩])
(.cond (.tmp 6)
.skip
(.seq
(.ops [⟨(some 8), none, (.p (.bin .eql (.tmp 5) (.c (.str [105, 110])))), 0, []⟩,
⟨(some 6), none, (.p (.mv (.tmp 8))), 0, []⟩])
(.cond (.tmp 6)
.skip
(.ops [⟨(some 9), none, (.p (.bin .eql (.tmp 5) (.c (.str [110, 97, 109, 101])))), 0, []⟩,
⟨(some 6), none, (.p (.mv (.tmp 9))), 0, []⟩])))))
(.cond (.tmp 6)
(.seq
(.ops [⟨(some 10), none, (.p (.fieldAt 1 (.tmp 1))), 0, []⟩,
⟨(some 11), none, (.r (.load 1 false (.tmp 10))), 0, []⟩,
⟨(some 2), none, (.p (.mv (.tmp 11))), 0, []⟩,
⟨(some 3), none, (.p (.mv (.c (.bool true)))), 0, []⟩])
.ret)
.skip))))
(.seq
(.ops [⟨(some 2), none, (.p (.mv (.c (.str [])))), 0, []⟩,
⟨(some 3), none, (.p (.mv (.c (.bool false)))), 0, []⟩])
.ret)))⟩
theorem c62 : Mir.compF Tryz.prog Tryz.f62 = some g62 := by kernel_rfl
/-- (*scribe/resolve.resolver).symbol -/
def g63 : Mir.Fn := ⟨29, [(.cell 6 2 true)],
(.seq
(.ops [⟨(some 6), none, (.a (.alloc [(.int .i64 0), (.str [])])), 0, []⟩])
(.seq
(.seq
(.ops [⟨(some 7), none, (.p (.mv (.tmp 1))), 0, []⟩,
⟨(some 8), none, (.p (.bin .geq (.tmp 7) (.c (.int .i64 0)))), 0, []⟩,
⟨(some 9), none, (.p (.mv (.tmp 8))), 0, []⟩,
⟨(some 10), (some (9, true)), (.p (.mv (.tmp 0))), 0, []⟩,
⟨(some 11), (some (9, true)), (.p (.nilchk (.tmp 10))), 0, []⟩,
⟨(some 12), (some (9, true)), (.p (.fieldAt 1 (.tmp 11))), 0, []⟩,
⟨(some 13), (some (9, true)), (.r (.load 1 false (.tmp 12))), 0, []⟩,
⟨(some 14), (some (9, true)), (.p (.nilchk (.tmp 13))), 0, []⟩,
⟨(some 15), (some (9, true)), (.p (.fieldAt 0 (.tmp 14))), 0, []⟩,
⟨(some 16), (some (9, true)), (.r (.load 1 false (.tmp 15))), 0, []⟩,
⟨(some 17), (some (9, true)), (.p (.mv (.tmp 1))), 0, []⟩,
⟨(some 18), (some (9, true)), (.p (.idxSl 7 (.tmp 16) (.tmp 17))), 0, []⟩,
⟨(some 19), (some (9, true)), (.p (.fieldAt 1 (.tmp 18))), 0, []⟩,
⟨(some 20), (some (9, true)), (.r (.load 1 false (.tmp 19))), 0, []⟩,
⟨(some 21), (some (9, true)), (.p (.mv (.tmp 2))), 0, []⟩,
⟨(some 22), (some (9, true)), (.h (.call (.c (.fn 50 [] [])) [(.tmp 20), (.tmp 21)])), 0, []⟩,
⟨(some 23), none, (.p (.pick (.tmp 9) (.tmp 22) (.c (.bool false)))), 0, []⟩])
(.cond (.tmp 23)
(.seq
(.ops [⟨(some 24), none, (.p (.mv (.tmp 1))), 0, []⟩,
⟨(some 25), none, (.p (.mv (.tmp 2))), 0, []⟩,
⟨(some 26), none, (.p (.build [(.int .i64 0), (.str [])] [(0, (1, (.tmp 24))), (1, (1, (.tmp 25)))])), 0, []⟩,
⟨none, none, (.h (.store 2 (.tmp 6) (.tmp 26))), 0, []⟩])
.ret)
.skip))
(.seq
(.ops [⟨(some 27), none, (.p (.mv (.tmp 2))), 0, []⟩,
⟨(some 28), none, (.p (.build [(.int .i64 0), (.str [])] [(0, (1, (.c (.int .i64 (-1))))), (1, (1, (.tmp 27)))])), 0, []⟩,
⟨none, none, (.h (.store 2 (.tmp 6) (.tmp 28))), 0, []⟩])
.ret)))⟩
theorem c63 : Mir.compF Tryz.prog Tryz.f63 = some g63 := by kernel_rfl
/-- (*scribe/resolve.resolver).check -/
def g64 : Mir.Fn := ⟨94, [],
(.seq
(.ops [⟨(some 6), none, (.a (.box (.tmp 2))), 0, []⟩,
⟨(some 7), none, (.a (.box (.tmp 3))), 0, []⟩])
(.seq
(.seq
(.ops [⟨(some 10), none, (.p (.mv (.tmp 0))), 0, []⟩,
⟨(some 11), none, (.p (.nilchk (.tmp 10))), 0, []⟩,
⟨(some 12), none, (.p (.fieldAt 5 (.tmp 11))), 0, []⟩,
⟨(some 13), none, (.r (.load 1 false (.tmp 12))), 0, []⟩,
⟨(some 14), none, (.p (.bin .neq (.tmp 13) (.c (.int .i64 0)))), 0, []⟩])
(.cond (.tmp 14)
.ret
.skip))
(.seq
(.seq
(.ops [⟨(some 15), none, (.p (.fieldAt 0 (.tmp 6))), 0, []⟩,
⟨(some 16), none, (.r (.load 1 false (.tmp 15))), 0, []⟩])
(.block 0 (.seq
(.ops [⟨(some 18), none, (.p (.bin .eql (.tmp 16) (.c (.str [118, 97, 114])))), 0, []⟩,
⟨(some 17), none, (.p (.mv (.tmp 18))), 0, []⟩])
(.cond (.tmp 17)
(.ops [⟨(some 19), none, (.p (.mv (.tmp 0))), 0, []⟩,
⟨(some 20), none, (.p (.mv (.tmp 1))), 0, []⟩,
⟨(some 21), none, (.r (.load 4 true (.tmp 6))), 0, []⟩,
⟨(some 22), none, (.h (.call (.c (.fn 98 [] [])) [(.tmp 19), (.tmp 20), (.tmp 21), (.c (.bool false))])), 0, []⟩])
(.seq
(.seq
(.ops [⟨(some 24), none, (.p (.bin .eql (.tmp 16) (.c (.str [105, 110, 100, 101, 120])))), 0, []⟩,
⟨(some 23), none, (.p (.mv (.tmp 24))), 0, []⟩])
(.cond (.tmp 23)
.skip
(.seq
(.ops [⟨(some 25), none, (.p (.bin .eql (.tmp 16) (.c (.str [105, 110])))), 0, []⟩,
⟨(some 23), none, (.p (.mv (.tmp 25))), 0, []⟩])
(.cond (.tmp 23)
.skip
(.ops [⟨(some 26), none, (.p (.bin .eql (.tmp 16) (.c (.str [110, 97, 109, 101])))), 0, []⟩,
⟨(some 23), none, (.p (.mv (.tmp 26))), 0, []⟩])))))
(.cond (.tmp 23)
(.ops [⟨(some 27), none, (.p (.mv (.tmp 0))), 0, []⟩,
⟨(some 28), none, (.p (.mv (.tmp 1))), 0, []⟩,
⟨(some 29), none, (.r (.load 4 true (.tmp 6))), 0, []⟩,
⟨(some 30), none, (.h (.call (.c (.fn 98 [] [])) [(.tmp 27), (.tmp 28), (.tmp 29), (.c (.bool true))])), 0, []⟩])
(.seq
(.ops [⟨(some 32), none, (.p (.bin .eql (.tmp 16) (.c (.str [102, 111, 114, 105, 110])))), 0, []⟩,
⟨(some 31), none, (.p (.mv (.tmp 32))), 0, []⟩])
(.cond (.tmp 31)
(.seq
(.ops [⟨(some 33), none, (.p (.mv (.tmp 0))), 0, []⟩,
⟨(some 34), none, (.p (.mv (.tmp 1))), 0, []⟩,
⟨(some 35), none, (.p (.fieldAt 1 (.tmp 6))), 0, []⟩,
⟨(some 36), none, (.r (.load 1 false (.tmp 35))), 0, []⟩,
⟨(some 37), none, (.p (.fieldAt 2 (.tmp 6))), 0, []⟩,
⟨(some 38), none, (.r (.load 1 false (.tmp 37))), 0, []⟩,
⟨(some 39), none, (.p (.build [(.str []), (.str []), (.int .i64 0), .nilsl] [(0, (1, (.c (.str [118, 97, 114])))), (1, (1, (.tmp 36))), (2, (1, (.tmp 38)))])), 0, []⟩,
⟨(some 40), none, (.h (.call (.c (.fn 98 [] [])) [(.tmp 33), (.tmp 34), (.tmp 39), (.c (.bool false))])), 0, []⟩])
(.ops [⟨(some 41), none, (.p (.fieldAt 0 (.tmp 7))), 0, []⟩,
⟨none, none, (.h (.store 1 (.tmp 41) (.c (.bool true)))), 0, []⟩]))
(.seq
(.seq
(.ops [⟨(some 43), none, (.p (.bin .eql (.tmp 16) (.c (.str [119, 104, 105, 108, 101])))), 0, []⟩,
⟨(some 42), none, (.p (.mv (.tmp 43))), 0, []⟩])
(.cond (.tmp 42)
.skip
(.ops [⟨(some 44), none, (.p (.bin .eql (.tmp 16) (.c (.str [102, 111, 114])))), 0, []⟩,
⟨(some 42), none, (.p (.mv (.tmp 44))), 0, []⟩])))
(.cond (.tmp 42)
(.ops [⟨(some 45), none, (.p (.fieldAt 0 (.tmp 7))), 0, []⟩,
⟨none, none, (.h (.store 1 (.tmp 45) (.c (.bool true)))), 0, []⟩])
(.seq
(.ops [⟨(some 47), none, (.p (.bin .eql (.tmp 16) (.c (.str [99, 97, 108, 108])))), 0, []⟩,
⟨(some 46), none, (.p (.mv (.tmp 47))), 0, []⟩])
(.cond (.tmp 46)
(.seq
(.ops [⟨(some 48), none, (.p (.mv (.tmp 0))), 0, []⟩,
⟨(some 49), none, (.p (.mv (.tmp 1))), 0, []⟩,
⟨(some 50), none, (.r (.load 4 true (.tmp 6))), 0, []⟩,
⟨(some 51), none, (.r (.load 3 true (.tmp 7))), 0, []⟩,
⟨(some 52), none, (.h (.call (.c (.fn 99 [] [])) [(.tmp 48), (.tmp 49), (.tmp 50), (.tmp 51)])), 0, []⟩])
.ret)
(.seq
(.seq
(.ops [⟨(some 54), none, (.p (.bin .eql (.tmp 16) (.c (.str [98, 114, 101, 97, 107])))), 0, []⟩,
⟨(some 53), none, (.p (.mv (.tmp 54))), 0, []⟩])
(.cond (.tmp 53)
.skip
(.ops [⟨(some 55), none, (.p (.bin .eql (.tmp 16) (.c (.str [99, 111, 110, 116, 105, 110, 117, 101])))), 0, []⟩,
⟨(some 53), none, (.p (.mv (.tmp 55))), 0, []⟩])))
(.cond (.tmp 53)
(.seq
(.ops [⟨(some 56), none, (.p (.fieldAt 0 (.tmp 7))), 0, []⟩,
⟨(some 57), none, (.r (.load 1 false (.tmp 56))), 0, []⟩,
⟨(some 58), none, (.p (.un .not (.tmp 57))), 0, []⟩])
(.cond (.tmp 58)
(.ops [⟨(some 59), none, (.p (.mv (.tmp 0))), 0, []⟩,
⟨(some 60), none, (.p (.fieldAt 2 (.tmp 6))), 0, []⟩,
⟨(some 61), none, (.r (.load 1 false (.tmp 60))), 0, []⟩,
⟨(some 62), none, (.h (.call (.c (.fn 65 [] [])) [(.tmp 59), (.tmp 61), (.c (.int .i64 9))])), 0, []⟩])
.skip))
(.seq
(.ops [⟨(some 64), none, (.p (.bin .eql (.tmp 16) (.c (.str [114, 101, 116, 117, 114, 110])))), 0, []⟩,
⟨(some 63), none, (.p (.mv (.tmp 64))), 0, []⟩])
(.cond (.tmp 63)
(.seq
(.ops [⟨(some 65), none, (.p (.fieldAt 1 (.tmp 7))), 0, []⟩,
⟨(some 66), none, (.r (.load 1 false (.tmp 65))), 0, []⟩,
⟨(some 67), none, (.p (.un .not (.tmp 66))), 0, []⟩])
(.cond (.tmp 67)
(.ops [⟨(some 68), none, (.p (.mv (.tmp 0))), 0, []⟩,
⟨(some 69), none, (.p (.fieldAt 2 (.tmp 6))), 0, []⟩,
⟨(some 70), none, (.r (.load 1 false (.tmp 69))), 0, []⟩,
⟨(some 71), none, (.h (.call (.c (.fn 65 [] [])) [(.tmp 68), (.tmp 70), (.c (.int .i64 9))])), 0, []⟩])
.skip))
(.seq
(.ops [⟨(some 73), none, (.p (.bin .eql (.tmp 16) (.c (.str [110, 101, 120, 116])))), 0, []⟩,
⟨(some 72), none, (.p (.mv (.tmp 73))), 0, []⟩])
(.cond (.tmp 72)
(.seq
(.ops [⟨(some 74), none, (.p (.fieldAt 2 (.tmp 7))), 0, []⟩,
⟨(some 75), none, (.r (.load 1 false (.tmp 74))), 0, []⟩,
⟨(some 76), none, (.p (.un .not (.tmp 75))), 0, []⟩])
(.cond (.tmp 76)
(.ops [⟨(some 77), none, (.p (.mv (.tmp 0))), 0, []⟩,
⟨(some 78), none, (.p (.fieldAt 2 (.tmp 6))), 0, []⟩,
⟨(some 79), none, (.r (.load 1 false (.tmp 78))), 0, []⟩,
⟨(some 80), none, (.h (.call (.c (.fn 65 [] [])) [(.tmp 77), (.tmp 79), (.c (.int .i64 9))])), 0, []⟩])
.skip))
.skip))))))))))))))))))
(.seq
(.ops [⟨(some 81), none, (.p (.fieldAt 3 (.tmp 6))), 0, []⟩,
⟨(some 82), none, (.r (.load 1 false (.tmp 81))), 0, []⟩,
⟨(some 83), none, (.p (.lenSl (.tmp 82))), 0, []⟩,
⟨(some 84), none, (.p (.mv (.c (.int .i64 0)))), 0, []⟩])
(.block 1 (.loop (.seq
(.ops [⟨(some 85), none, (.p (.bin .lss (.tmp 84) (.tmp 83))), 0, []⟩])
(.seq
(.cond (.tmp 85)
.skip
(.exit 1))
(.seq
(.block 2 (.seq
(.ops [⟨(some 86), none, (.p (.idxSl 4 (.tmp 82) (.tmp 84))), 0, []⟩,
⟨(some 87), none, (.r (.load 4 true (.tmp 86))), 0, []⟩,
⟨(some 9), none, (.a (.alloc [(.str []), (.str []), (.int .i64 0), .nilsl])), 0, []⟩,
⟨none, none, (.h (.store 4 (.tmp 9) (.tmp 87))), 0, []⟩])
(.ops [⟨(some 88), none, (.p (.mv (.tmp 0))), 0, []⟩,
⟨(some 89), none, (.p (.mv (.tmp 1))), 0, []⟩,
⟨(some 90), none, (.r (.load 4 true (.tmp 9))), 0, []⟩,
⟨(some 91), none, (.r (.load 3 true (.tmp 7))), 0, []⟩,
⟨(some 92), none, (.h (.call (.c (.fn 64 [] [])) [(.tmp 88), (.tmp 89), (.tmp 90), (.tmp 91)])), 0, []⟩])))
(.ops [⟨(some 93), none, (.p (.bin .add (.tmp 84) (.c (.int .i64 1)))), 0, []⟩,
⟨(some 84), none, (.p (.mv (.tmp 93))), 0, []⟩]))))))))))⟩
theorem c64 : Mir.compF Tryz.prog Tryz.f64 = some g64 := by kernel_rfl
/-- (*scribe/resolve.resolver).fail -/
def g65 : Mir.Fn := ⟨19, [],
(.seq
(.ops [⟨(some 6), none, (.p (.mv (.tmp 0))), 0, []⟩,
⟨(some 7), none, (.p (.nilchk (.tmp 6))), 0, []⟩,
⟨(some 8), none, (.p (.fieldAt 5 (.tmp 7))), 0, []⟩,
⟨(some 9), none, (.r (.load 1 false (.tmp 8))), 0, []⟩,
⟨(some 10), none, (.p (.bin .eql (.tmp 9) (.c (.int .i64 0)))), 0, []⟩])
(.cond (.tmp 10)
(.ops [⟨(some 11), none, (.p (.mv (.tmp 0))), 0, []⟩,
⟨(some 12), none, (.p (.mv (.tmp 0))), 0, []⟩,
⟨(some 13), none, (.p (.mv (.tmp 2))), 0, []⟩,
⟨(some 14), none, (.p (.mv (.tmp 1))), 0, []⟩,
⟨(some 15), none, (.p (.nilchk (.tmp 11))), 0, []⟩,
⟨(some 16), none, (.p (.fieldAt 5 (.tmp 15))), 0, []⟩,
⟨none, none, (.h (.store 1 (.tmp 16) (.tmp 13))), 0, []⟩,
⟨(some 17), none, (.p (.nilchk (.tmp 12))), 0, []⟩,
⟨(some 18), none, (.p (.fieldAt 4 (.tmp 17))), 0, []⟩,
⟨none, none, (.h (.store 1 (.tmp 18) (.tmp 14))), 0, []⟩])
.skip))⟩
theorem c65 : Mir.compF Tryz.prog Tryz.f65 = some g65 := by kernel_rfl
/-- scribe/num.Prefix -/
def g66 : Mir.Fn := ⟨110, [(.tmp 2), (.tmp 3)],
(.seq
(.ops [⟨(some 2), none, (.p (.mv (.c (.int .i64 0)))), 0, []⟩,
⟨(some 3), none, (.p (.mv (.c (.int .i64 0)))), 0, []⟩])
(.seq
(.ops [⟨(some 4), none, (.p (.mv (.c (.int .i64 0)))), 0, []⟩])
(.seq
(.block 0 (.loop (.seq
(.seq
(.ops [⟨(some 13), none, (.p (.mv (.tmp 4))), 0, []⟩,
⟨(some 14), none, (.p (.mv (.tmp 0))), 0, []⟩,
⟨(some 15), none, (.p (.lenStr (.tmp 14))), 0, []⟩,
⟨(some 16), none, (.p (.bin .lss (.tmp 13) (.tmp 15))), 0, []⟩,
⟨(some 17), none, (.p (.mv (.tmp 16))), 0, []⟩,
⟨(some 18), (some (17, true)), (.p (.mv (.tmp 0))), 0, []⟩,
⟨(some 19), (some (17, true)), (.p (.mv (.tmp 4))), 0, []⟩,
⟨(some 20), (some (17, true)), (.p (.idxStr (.tmp 18) (.tmp 19))), 0, []⟩,
⟨(some 21), (some (17, true)), (.p (.bin .eql (.tmp 20) (.c (.int .u8 32)))), 0, []⟩,
⟨(some 22), (some (17, true)), (.p (.mv (.tmp 21))), 0, []⟩,
⟨(some 23), (some (22, false)), (.p (.mv (.tmp 0))), 0, []⟩,
⟨(some 24), (some (22, false)), (.p (.mv (.tmp 4))), 0, []⟩,
⟨(some 25), (some (22, false)), (.p (.idxStr (.tmp 23) (.tmp 24))), 0, []⟩,
⟨(some 26), (some (22, false)), (.p (.bin .eql (.tmp 25) (.c (.int .u8 9)))), 0, []⟩,
⟨(some 27), (some (17, true)), (.p (.pick (.tmp 22) (.c (.bool true)) (.tmp 26))), 0, []⟩,
⟨(some 28), (some (17, true)), (.p (.mv (.tmp 27))), 0, []⟩,
⟨(some 29), (some (28, false)), (.p (.mv (.tmp 0))), 0, []⟩,
⟨(some 30), (some (28, false)), (.p (.mv (.tmp 4))), 0, []⟩,
⟨(some 31), (some (28, false)), (.p (.idxStr (.tmp 29) (.tmp 30))), 0, []⟩,
⟨(some 32), (some (28, false)), (.p (.bin .eql (.tmp 31) (.c (.int .u8 10)))), 0, []⟩,
⟨(some 33), (some (17, true)), (.p (.pick (.tmp 28) (.c (.bool true)) (.tmp 32))), 0, []⟩,
⟨(some 34), none, (.p (.pick (.tmp 17) (.tmp 33) (.c (.bool false)))), 0, []⟩])
(.cond (.tmp 34)
.skip
(.exit 0)))
(.block 1 (.ops [⟨(some 35), none, (.p (.mv (.tmp 4))), 0, []⟩,
⟨(some 36), none, (.p (.bin .add (.tmp 35) (.c (.int .i64 1)))), 0, []⟩,
⟨(some 4), none, (.p (.mv (.tmp 36))), 0, []⟩])))))
(.seq
(.ops [⟨(some 37), none, (.p (.mv (.tmp 4))), 0, []⟩,
⟨(some 38), none, (.p (.mv (.tmp 0))), 0, []⟩,
⟨(some 39), none, (.p (.lenStr (.tmp 38))), 0, []⟩,
⟨(some 40), none, (.p (.bin .lss (.tmp 37) (.tmp 39))), 0, []⟩,
⟨(some 41), none, (.p (.mv (.tmp 40))), 0, []⟩,
⟨(some 42), (some (41, true)), (.p (.mv (.tmp 0))), 0, []⟩,
⟨(some 43), (some (41, true)), (.p (.mv (.tmp 4))), 0, []⟩,
⟨(some 44), (some (41, true)), (.p (.idxStr (.tmp 42) (.tmp 43))), 0, []⟩,
⟨(some 45), (some (41, true)), (.p (.bin .eql (.tmp 44) (.c (.int .u8 45)))), 0, []⟩,
⟨(some 46), none, (.p (.pick (.tmp 41) (.tmp 45) (.c (.bool false)))), 0, []⟩,
⟨(some 5), none, (.p (.mv (.tmp 46))), 0, []⟩])
(.seq
(.seq
(.ops [⟨(some 47), none, (.p (.mv (.tmp 5))), 0, []⟩,
⟨(some 48), none, (.p (.mv (.tmp 47))), 0, []⟩,
⟨(some 49), (some (48, false)), (.p (.mv (.tmp 4))), 0, []⟩,
⟨(some 50), (some (48, false)), (.p (.mv (.tmp 0))), 0, []⟩,
⟨(some 51), (some (48, false)), (.p (.lenStr (.tmp 50))), 0, []⟩,
⟨(some 52), (some (48, false)), (.p (.bin .lss (.tmp 49) (.tmp 51))), 0, []⟩,
⟨(some 53), (some (48, false)), (.p (.mv (.tmp 52))), 0, []⟩,
⟨(some 54), (some (53, true)), (.p (.mv (.tmp 0))), 0, []⟩,
⟨(some 55), (some (53, true)), (.p (.mv (.tmp 4))), 0, []⟩,
⟨(some 56), (some (53, true)), (.p (.idxStr (.tmp 54) (.tmp 55))), 0, []⟩,
⟨(some 57), (some (53, true)), (.p (.bin .eql (.tmp 56) (.c (.int .u8 43)))), 0, []⟩,
⟨(some 58), (some (48, false)), (.p (.pick (.tmp 53) (.tmp 57) (.c (.bool false)))), 0, []⟩,
⟨(some 59), none, (.p (.pick (.tmp 48) (.c (.bool true)) (.tmp 58))), 0, []⟩])
(.cond (.tmp 59)
(.ops [⟨(some 60), none, (.p (.mv (.tmp 4))), 0, []⟩,
⟨(some 61), none, (.p (.bin .add (.tmp 60) (.c (.int .i64 1)))), 0, []⟩,
⟨(some 4), none, (.p (.mv (.tmp 61))), 0, []⟩])
.skip))
(.seq
(.ops [⟨(some 6), none, (.p (.mv (.c (.int .i64 0)))), 0, []⟩,
⟨(some 7), none, (.p (.mv (.c (.bool false)))), 0, []⟩])
(.seq
(.ops [⟨(some 8), none, (.p (.mv (.c (.int .u64 0)))), 0, []⟩,
⟨(some 9), none, (.p (.mv (.c (.int .u64 0)))), 0, []⟩,
⟨(some 10), none, (.p (.mv (.c (.int .u64 100000)))), 0, []⟩])
(.seq
(.block 2 (.loop (.seq
(.seq
(.ops [⟨(some 62), none, (.p (.mv (.tmp 4))), 0, []⟩,
⟨(some 63), none, (.p (.mv (.tmp 0))), 0, []⟩,
⟨(some 64), none, (.p (.lenStr (.tmp 63))), 0, []⟩,
⟨(some 65), none, (.p (.bin .lss (.tmp 62) (.tmp 64))), 0, []⟩])
(.cond (.tmp 65)
.skip
(.exit 2)))
(.seq
(.block 3 (.seq
(.ops [⟨(some 68), none, (.p (.mv (.tmp 0))), 0, []⟩,
⟨(some 69), none, (.p (.mv (.tmp 4))), 0, []⟩,
⟨(some 70), none, (.p (.idxStr (.tmp 68) (.tmp 69))), 0, []⟩,
⟨(some 11), none, (.p (.mv (.tmp 70))), 0, []⟩])
(.seq
(.seq
(.ops [⟨(some 71), none, (.p (.mv (.tmp 11))), 0, []⟩,
⟨(some 72), none, (.p (.bin .eql (.tmp 71) (.c (.int .u8 46)))), 0, []⟩,
⟨(some 73), none, (.p (.mv (.tmp 72))), 0, []⟩,
⟨(some 74), (some (73, true)), (.p (.mv (.tmp 7))), 0, []⟩,
⟨(some 75), (some (73, true)), (.p (.un .not (.tmp 74))), 0, []⟩,
⟨(some 76), none, (.p (.pick (.tmp 73) (.tmp 75) (.c (.bool false)))), 0, []⟩])
(.cond (.tmp 76)
(.seq
(.ops [⟨(some 7), none, (.p (.mv (.c (.bool true)))), 0, []⟩])
(.exit 3))
.skip))
(.seq
(.seq
(.ops [⟨(some 77), none, (.p (.mv (.tmp 11))), 0, []⟩,
⟨(some 78), none, (.p (.bin .lss (.tmp 77) (.c (.int .u8 48)))), 0, []⟩,
⟨(some 79), none, (.p (.mv (.tmp 78))), 0, []⟩,
⟨(some 80), (some (79, false)), (.p (.mv (.tmp 11))), 0, []⟩,
⟨(some 81), (some (79, false)), (.p (.bin .gtr (.tmp 80) (.c (.int .u8 57)))), 0, []⟩,
⟨(some 82), none, (.p (.pick (.tmp 79) (.c (.bool true)) (.tmp 81))), 0, []⟩])
(.cond (.tmp 82)
(.exit 2)
.skip))
(.seq
(.ops [⟨(some 83), none, (.p (.mv (.tmp 6))), 0, []⟩,
⟨(some 84), none, (.p (.bin .add (.tmp 83) (.c (.int .i64 1)))), 0, []⟩,
⟨(some 6), none, (.p (.mv (.tmp 84))), 0, []⟩])
(.seq
(.ops [⟨(some 85), none, (.p (.mv (.tmp 11))), 0, []⟩,
⟨(some 86), none, (.p (.bin .sub (.tmp 85) (.c (.int .u8 48)))), 0, []⟩,
⟨(some 87), none, (.p (.convInt .u64 (.tmp 86))), 0, []⟩,
⟨(some 12), none, (.p (.mv (.tmp 87))), 0, []⟩])
(.seq
(.ops [⟨(some 88), none, (.p (.mv (.tmp 7))), 0, []⟩])
(.cond (.tmp 88)
(.seq
(.ops [⟨(some 89), none, (.p (.mv (.tmp 9))), 0, []⟩,
⟨(some 90), none, (.p (.mv (.tmp 12))), 0, []⟩,
⟨(some 91), none, (.p (.mv (.tmp 10))), 0, []⟩,
⟨(some 92), none, (.p (.bin .mul (.tmp 90) (.tmp 91))), 0, []⟩,
⟨(some 93), none, (.p (.bin .add (.tmp 89) (.tmp 92))), 0, []⟩,
⟨(some 9), none, (.p (.mv (.tmp 93))), 0, []⟩])
(.ops [⟨(some 94), none, (.p (.mv (.tmp 10))), 0, []⟩,
⟨(some 95), none, (.p (.bin .quo (.tmp 94) (.c (.int .u64 10)))), 0, []⟩,
⟨(some 10), none, (.p (.mv (.tmp 95))), 0, []⟩]))
(.ops [⟨(some 96), none, (.p (.mv (.tmp 8))), 0, []⟩,
⟨(some 97), none, (.p (.bin .mul (.c (.int .u64 10)) (.tmp 96))), 0, []⟩,
⟨(some 98), none, (.p (.mv (.tmp 12))), 0, []⟩,
⟨(some 99), none, (.p (.bin .add (.tmp 97) (.tmp 98))), 0, []⟩,
⟨(some 100), none, (.p (.mnmx false (.tmp 99) [(.c (.int .u64 10000000000000))])), 0, []⟩,
⟨(some 8), none, (.p (.mv (.tmp 100))), 0, []⟩])))))))))
(.ops [⟨(some 66), none, (.p (.mv (.tmp 4))), 0, []⟩,
⟨(some 67), none, (.p (.bin .add (.tmp 66) (.c (.int .i64 1)))), 0, []⟩,
⟨(some 4), none, (.p (.mv (.tmp 67))), 0, []⟩])))))
(.seq
(.seq
(.ops [⟨(some 101), none, (.p (.mv (.tmp 6))), 0, []⟩,
⟨(some 102), none, (.p (.bin .eql (.tmp 101) (.c (.int .i64 0)))), 0, []⟩])
(.cond (.tmp 102)
(.seq
(.ops [⟨(some 2), none, (.p (.mv (.c (.int .i64 0)))), 0, []⟩,
⟨(some 3), none, (.p (.mv (.c (.int .i64 0)))), 0, []⟩])
.ret)
.skip))
(.seq
(.ops [⟨(some 103), none, (.p (.mv (.tmp 5))), 0, []⟩,
⟨(some 104), none, (.p (.mv (.tmp 8))), 0, []⟩,
⟨(some 105), none, (.p (.bin .mul (.tmp 104) (.c (.int .u64 1000000)))), 0, []⟩,
⟨(some 106), none, (.p (.mv (.tmp 9))), 0, []⟩,
⟨(some 107), none, (.p (.bin .add (.tmp 105) (.tmp 106))), 0, []⟩,
⟨(some 108), none, (.h (.call (.c (.fn 100 [] [])) [(.tmp 103), (.c (.int .u64 0)), (.tmp 107)])), 0, []⟩,
⟨(some 109), none, (.p (.mv (.tmp 4))), 0, []⟩,
⟨(some 2), none, (.p (.mv (.tmp 108))), 0, []⟩,
⟨(some 3), none, (.p (.mv (.tmp 109))), 0, []⟩])
.ret))))))))))⟩
theorem c66 : Mir.compF Tryz.prog Tryz.f66 = some g66 := by kernel_rfl
/-- (*scribe/code.compiler).number -/
def g67 : Mir.Fn := ⟨53, [],
(.seq
(.seq
(.ops [⟨(some 6), none, (.p (.mv (.tmp 0))), 0, []⟩,
⟨(some 7), none, (.p (.nilchk (.tmp 6))), 0, []⟩,
⟨(some 8), none, (.p (.fieldAt 0 (.tmp 7))), 0, []⟩,
⟨(some 9), none, (.r (.load 1 false (.tmp 8))), 0, []⟩,
⟨(some 10), none, (.p (.nilchk (.tmp 9))), 0, []⟩,
⟨(some 11), none, (.p (.fieldAt 1 (.tmp 10))), 0, []⟩,
⟨(some 12), none, (.r (.load 1 false (.tmp 11))), 0, []⟩,
⟨(some 13), none, (.p (.lenSl (.tmp 12))), 0, []⟩,
⟨(some 14), none, (.p (.mv (.c (.int .i64 0)))), 0, []⟩])
(.block 0 (.loop (.seq
(.ops [⟨(some 15), none, (.p (.bin .lss (.tmp 14) (.tmp 13))), 0, []⟩])
(.seq
(.cond (.tmp 15)
.skip
(.exit 0))
(.seq
(.block 1 (.seq
(.ops [⟨(some 16), none, (.p (.mv (.tmp 14))), 0, []⟩,
⟨(some 17), none, (.p (.idxSl 1 (.tmp 12) (.tmp 14))), 0, []⟩,
⟨(some 18), none, (.r (.load 1 false (.tmp 17))), 0, []⟩,
⟨(some 4), none, (.p (.mv (.tmp 16))), 0, []⟩,
⟨(some 5), none, (.p (.mv (.tmp 18))), 0, []⟩])
(.seq
(.ops [⟨(some 19), none, (.p (.mv (.tmp 5))), 0, []⟩,
⟨(some 20), none, (.p (.mv (.tmp 1))), 0, []⟩,
⟨(some 21), none, (.p (.bin .eql (.tmp 19) (.tmp 20))), 0, []⟩])
(.cond (.tmp 21)
(.seq
(.ops [⟨(some 22), none, (.p (.mv (.tmp 0))), 0, []⟩,
⟨(some 23), none, (.p (.mv (.tmp 4))), 0, []⟩,
⟨(some 24), none, (.h (.call (.c (.fn 23 [] [])) [(.tmp 22), (.c (.int .i64 1)), (.tmp 23), (.c (.int .i64 0))])), 0, []⟩])
.ret)
.skip))))
(.ops [⟨(some 25), none, (.p (.bin .add (.tmp 14) (.c (.int .i64 1)))), 0, []⟩,
⟨(some 14), none, (.p (.mv (.tmp 25))), 0, []⟩])))))))
(.seq
(.draw [⟨(some 26), none, (.p (.mv (.tmp 0))), 0, []⟩,
⟨(some 27), none, (.p (.nilchk (.tmp 26))), 1, []⟩,
⟨(some 28), none, (.p (.fieldAt 0 (.tmp 27))), 2, []⟩,
⟨(some 29), none, (.r (.load 1 false (.tmp 28))), 3, []⟩,
⟨(some 30), none, (.p (.mv (.tmp 0))), 4, []⟩,
⟨(some 31), none, (.p (.nilchk (.tmp 30))), 5, []⟩,
⟨(some 32), none, (.p (.fieldAt 0 (.tmp 31))), 6, []⟩,
⟨(some 33), none, (.r (.load 1 false (.tmp 32))), 7, []⟩,
⟨(some 34), none, (.p (.nilchk (.tmp 33))), 8, []⟩,
⟨(some 35), none, (.p (.fieldAt 1 (.tmp 34))), 9, []⟩,
⟨(some 36), none, (.r (.load 1 false (.tmp 35))), 10, []⟩,
⟨(some 37), none, (.p (.mv (.tmp 1))), 11, []⟩,
⟨(some 38), none, (.a (.mkSl [(.int .i64 0)] 1 1 [(0, (1, (.tmp 37)))])), 12, []⟩,
⟨(some 39), none, (.h (.app 1 8 (.tmp 36) (.tmp 38))), 13, [3]⟩,
⟨(some 40), none, (.p (.nilchk (.tmp 29))), 14, []⟩,
⟨(some 41), none, (.p (.fieldAt 1 (.tmp 40))), 15, []⟩,
⟨none, none, (.h (.store 1 (.tmp 41) (.tmp 39))), 16, []⟩])
(.ops [⟨(some 42), none, (.p (.mv (.tmp 0))), 0, []⟩,
⟨(some 43), none, (.p (.mv (.tmp 0))), 0, []⟩,
⟨(some 44), none, (.p (.nilchk (.tmp 43))), 0, []⟩,
⟨(some 45), none, (.p (.fieldAt 0 (.tmp 44))), 0, []⟩,
⟨(some 46), none, (.r (.load 1 false (.tmp 45))), 0, []⟩,
⟨(some 47), none, (.p (.nilchk (.tmp 46))), 0, []⟩,
⟨(some 48), none, (.p (.fieldAt 1 (.tmp 47))), 0, []⟩,
⟨(some 49), none, (.r (.load 1 false (.tmp 48))), 0, []⟩,
⟨(some 50), none, (.p (.lenSl (.tmp 49))), 0, []⟩,
⟨(some 51), none, (.p (.bin .sub (.tmp 50) (.c (.int .i64 1)))), 0, []⟩,
⟨(some 52), none, (.h (.call (.c (.fn 23 [] [])) [(.tmp 42), (.c (.int .i64 1)), (.tmp 51), (.c (.int .i64 0))])), 0, []⟩])))⟩
theorem c67 : Mir.compF Tryz.prog Tryz.f67 = some g67 := by kernel_rfl
/-- (*scribe/code.compiler).store -/
def g68 : Mir.Fn := ⟨67, [],
(.seq
(.ops [⟨(some 5), none, (.a (.box (.tmp 1))), 0, []⟩])
(.seq
(.ops [⟨(some 12), none, (.p (.fieldAt 0 (.tmp 5))), 0, []⟩,
⟨(some 13), none, (.r (.load 1 false (.tmp 12))), 0, []⟩])
(.block 0 (.seq
(.ops [⟨(some 37), none, (.p (.bin .eql (.tmp 13) (.c (.str [118, 97, 114])))), 0, []⟩,
⟨(some 36), none, (.p (.mv (.tmp 37))), 0, []⟩])
(.cond (.tmp 36)
(.seq
(.ops [⟨(some 38), none, (.p (.mv (.tmp 3))), 0, []⟩,
⟨(some 39), none, (.h (.call (.tmp 38) [])), 0, []⟩])
(.seq
(.ops [⟨(some 41), none, (.p (.mv (.tmp 0))), 0, []⟩,
⟨(some 42), none, (.p (.fieldAt 1 (.tmp 5))), 0, []⟩,
⟨(some 43), none, (.r (.load 1 false (.tmp 42))), 0, []⟩,
⟨(some 44), none, (.h (.call (.c (.fn 41 [] [])) [(.tmp 41), (.tmp 43)])), 0, []⟩,
⟨(some 40), none, (.p (.mv (.tmp 44))), 0, []⟩,
⟨(some 45), none, (.p (.ext (.tmp 40) 0)), 0, []⟩,
⟨(some 46), none, (.p (.ext (.tmp 40) 1)), 0, []⟩,
⟨(some 8), none, (.p (.mv (.tmp 45))), 0, []⟩,
⟨(some 9), none, (.p (.mv (.tmp 46))), 0, []⟩])
(.ops [⟨(some 47), none, (.p (.mv (.tmp 0))), 0, []⟩,
⟨(some 48), none, (.p (.mv (.tmp 8))), 0, []⟩,
⟨(some 49), none, (.p (.mv (.tmp 9))), 0, []⟩,
⟨(some 50), none, (.p (.mv (.tmp 2))), 0, []⟩,
⟨(some 51), none, (.p (.bin .mul (.c (.int .i64 2)) (.tmp 50))), 0, []⟩,
⟨(some 52), none, (.p (.bin .add (.tmp 49) (.tmp 51))), 0, []⟩,
⟨(some 53), none, (.h (.call (.c (.fn 23 [] [])) [(.tmp 47), (.c (.int .i64 6)), (.tmp 48), (.tmp 52)])), 0, []⟩])))
(.seq
(.ops [⟨(some 55), none, (.p (.bin .eql (.tmp 13) (.c (.str [102, 105, 101, 108, 100])))), 0, []⟩,
⟨(some 54), none, (.p (.mv (.tmp 55))), 0, []⟩])
(.cond (.tmp 54)
(.seq
(.ops [⟨(some 56), none, (.p (.mv (.tmp 0))), 0, []⟩,
⟨(some 57), none, (.p (.fieldAt 3 (.tmp 5))), 0, []⟩,
⟨(some 58), none, (.r (.load 1 false (.tmp 57))), 0, []⟩,
⟨(some 59), none, (.p (.idxSl 4 (.tmp 58) (.c (.int .i64 0)))), 0, []⟩,
⟨(some 60), none, (.r (.load 4 true (.tmp 59))), 0, []⟩,
⟨(some 61), none, (.h (.call (.c (.fn 36 [] [])) [(.tmp 56), (.tmp 60)])), 0, []⟩])
(.seq
(.ops [⟨(some 62), none, (.p (.mv (.tmp 3))), 0, []⟩,
⟨(some 63), none, (.h (.call (.tmp 62) [])), 0, []⟩])
(.ops [⟨(some 64), none, (.p (.mv (.tmp 0))), 0, []⟩,
⟨(some 65), none, (.p (.mv (.tmp 2))), 0, []⟩,
⟨(some 66), none, (.h (.call (.c (.fn 23 [] [])) [(.tmp 64), (.c (.int .i64 7)), (.c (.int .i64 0)), (.tmp 65)])), 0, []⟩])))
(.seq
(.ops [⟨(some 14), none, (.p (.mv (.tmp 0))), 0, []⟩,
⟨(some 15), none, (.p (.fieldAt 3 (.tmp 5))), 0, []⟩,
⟨(some 16), none, (.r (.load 1 false (.tmp 15))), 0, []⟩,
⟨(some 17), none, (.p (.idxSl 4 (.tmp 16) (.c (.int .i64 0)))), 0, []⟩,
⟨(some 18), none, (.r (.load 4 true (.tmp 17))), 0, []⟩,
⟨(some 19), none, (.h (.call (.c (.fn 36 [] [])) [(.tmp 14), (.tmp 18)])), 0, []⟩])
(.seq
(.ops [⟨(some 20), none, (.p (.mv (.tmp 3))), 0, []⟩,
⟨(some 21), none, (.h (.call (.tmp 20) [])), 0, []⟩])
(.seq
(.ops [⟨(some 23), none, (.p (.mv (.tmp 0))), 0, []⟩,
⟨(some 24), none, (.p (.fieldAt 1 (.tmp 5))), 0, []⟩,
⟨(some 25), none, (.r (.load 1 false (.tmp 24))), 0, []⟩,
⟨(some 26), none, (.h (.call (.c (.fn 41 [] [])) [(.tmp 23), (.tmp 25)])), 0, []⟩,
⟨(some 22), none, (.p (.mv (.tmp 26))), 0, []⟩,
⟨(some 27), none, (.p (.ext (.tmp 22) 0)), 0, []⟩,
⟨(some 28), none, (.p (.ext (.tmp 22) 1)), 0, []⟩,
⟨(some 10), none, (.p (.mv (.tmp 27))), 0, []⟩,
⟨(some 11), none, (.p (.mv (.tmp 28))), 0, []⟩])
(.ops [⟨(some 29), none, (.p (.mv (.tmp 0))), 0, []⟩,
⟨(some 30), none, (.p (.mv (.tmp 10))), 0, []⟩,
⟨(some 31), none, (.p (.mv (.tmp 11))), 0, []⟩,
⟨(some 32), none, (.p (.mv (.tmp 2))), 0, []⟩,
⟨(some 33), none, (.p (.bin .mul (.c (.int .i64 2)) (.tmp 32))), 0, []⟩,
⟨(some 34), none, (.p (.bin .add (.tmp 31) (.tmp 33))), 0, []⟩,
⟨(some 35), none, (.h (.call (.c (.fn 23 [] [])) [(.tmp 29), (.c (.int .i64 8)), (.tmp 30), (.tmp 34)])), 0, []⟩])))))))))))⟩
theorem c68 : Mir.compF Tryz.prog Tryz.f68 = some g68 := by kernel_rfl
/-- (*scribe/code.compiler).expr$1 -/
def g69 : Mir.Fn := ⟨8, [],
(.draw [⟨(some 2), none, (.r (.load 1 false (.tmp 0))), 0, []⟩,
⟨(some 3), none, (.p (.fieldAt 3 (.tmp 1))), 1, []⟩,
⟨(some 4), none, (.r (.load 1 false (.tmp 3))), 2, []⟩,
⟨(some 5), none, (.p (.idxSl 4 (.tmp 4) (.c (.int .i64 1)))), 3, []⟩,
⟨(some 6), none, (.r (.load 4 true (.tmp 5))), 4, []⟩,
⟨(some 7), none, (.h (.call (.c (.fn 36 [] [])) [(.tmp 2), (.tmp 6)])), 5, []⟩])⟩
theorem c69 : Mir.compF Tryz.prog Tryz.f69 = some g69 := by kernel_rfl
/-- (*scribe/code.compiler).expr$2 -/
def g70 : Mir.Fn := ⟨0, [],
.skip⟩
theorem c70 : Mir.compF Tryz.prog Tryz.f70 = some g70 := by kernel_rfl
/-- (*scribe/code.compiler).either -/
def g71 : Mir.Fn := ⟨34, [],
(.seq
(.ops [⟨(some 4), none, (.a (.box (.tmp 1))), 0, []⟩])
(.seq
(.ops [⟨(some 7), none, (.p (.mv (.tmp 0))), 0, []⟩,
⟨(some 8), none, (.p (.fieldAt 3 (.tmp 4))), 0, []⟩,
⟨(some 9), none, (.r (.load 1 false (.tmp 8))), 0, []⟩,
⟨(some 10), none, (.p (.idxSl 4 (.tmp 9) (.c (.int .i64 0)))), 0, []⟩,
⟨(some 11), none, (.r (.load 4 true (.tmp 10))), 0, []⟩,
⟨(some 12), none, (.h (.call (.c (.fn 36 [] [])) [(.tmp 7), (.tmp 11)])), 0, []⟩])
(.seq
(.ops [⟨(some 13), none, (.p (.mv (.tmp 0))), 0, []⟩,
⟨(some 14), none, (.h (.call (.c (.fn 23 [] [])) [(.tmp 13), (.c (.int .i64 19)), (.c (.int .i64 0)), (.c (.int .i64 0))])), 0, []⟩])
(.seq
(.ops [⟨(some 15), none, (.p (.mv (.tmp 0))), 0, []⟩,
⟨(some 16), none, (.h (.call (.c (.fn 23 [] [])) [(.tmp 15), (.c (.int .i64 20)), (.c (.int .i64 0)), (.c (.int .i64 0))])), 0, []⟩])
(.seq
(.ops [⟨(some 17), none, (.p (.mv (.tmp 0))), 0, []⟩,
⟨(some 18), none, (.p (.mv (.tmp 2))), 0, []⟩,
⟨(some 19), none, (.h (.call (.c (.fn 23 [] [])) [(.tmp 17), (.tmp 18), (.c (.int .i64 0)), (.c (.int .i64 0))])), 0, []⟩,
⟨(some 6), none, (.p (.mv (.tmp 19))), 0, []⟩])
(.seq
(.ops [⟨(some 20), none, (.p (.mv (.tmp 0))), 0, []⟩,
⟨(some 21), none, (.h (.call (.c (.fn 23 [] [])) [(.tmp 20), (.c (.int .i64 18)), (.c (.int .i64 0)), (.c (.int .i64 0))])), 0, []⟩])
(.seq
(.ops [⟨(some 22), none, (.p (.mv (.tmp 0))), 0, []⟩,
⟨(some 23), none, (.p (.fieldAt 3 (.tmp 4))), 0, []⟩,
⟨(some 24), none, (.r (.load 1 false (.tmp 23))), 0, []⟩,
⟨(some 25), none, (.p (.idxSl 4 (.tmp 24) (.c (.int .i64 1)))), 0, []⟩,
⟨(some 26), none, (.r (.load 4 true (.tmp 25))), 0, []⟩,
⟨(some 27), none, (.h (.call (.c (.fn 36 [] [])) [(.tmp 22), (.tmp 26)])), 0, []⟩])
(.seq
(.ops [⟨(some 28), none, (.p (.mv (.tmp 0))), 0, []⟩,
⟨(some 29), none, (.h (.call (.c (.fn 23 [] [])) [(.tmp 28), (.c (.int .i64 19)), (.c (.int .i64 0)), (.c (.int .i64 0))])), 0, []⟩])
(.ops [⟨(some 30), none, (.p (.mv (.tmp 0))), 0, []⟩,
⟨(some 31), none, (.p (.mv (.tmp 6))), 0, []⟩,
⟨(some 32), none, (.a (.mkSl [(.int .i64 0)] 1 1 [(0, (1, (.tmp 31)))])), 0, []⟩,
⟨(some 33), none, (.h (.call (.c (.fn 37 [] [])) [(.tmp 30), (.tmp 32)])), 0, []⟩])))))))))⟩
theorem c71 : Mir.compF Tryz.prog Tryz.f71 = some g71 := by kernel_rfl
/-- (*scribe/code.compiler).pattern -/
def g72 : Mir.Fn := ⟨14, [],
(.seq
(.ops [⟨(some 3), none, (.a (.box (.tmp 1))), 0, []⟩])
(.seq
(.ops [⟨(some 4), none, (.p (.fieldAt 0 (.tmp 3))), 0, []⟩,
⟨(some 5), none, (.r (.load 1 false (.tmp 4))), 0, []⟩,
⟨(some 6), none, (.p (.bin .eql (.tmp 5) (.c (.str [114, 101])))), 0, []⟩])
(.cond (.tmp 6)
(.ops [⟨(some 7), none, (.p (.mv (.tmp 0))), 0, []⟩,
⟨(some 8), none, (.p (.fieldAt 1 (.tmp 3))), 0, []⟩,
⟨(some 9), none, (.r (.load 1 false (.tmp 8))), 0, []⟩,
⟨(some 10), none, (.h (.call (.c (.fn 22 [] [])) [(.tmp 7), (.tmp 9)])), 0, []⟩])
(.ops [⟨(some 11), none, (.p (.mv (.tmp 0))), 0, []⟩,
⟨(some 12), none, (.r (.load 4 true (.tmp 3))), 0, []⟩,
⟨(some 13), none, (.h (.call (.c (.fn 36 [] [])) [(.tmp 11), (.tmp 12)])), 0, []⟩]))))⟩
theorem c72 : Mir.compF Tryz.prog Tryz.f72 = some g72 := by kernel_rfl
/-- (*scribe/code.compiler).call -/
def g73 : Mir.Fn := ⟨74, [],
(.seq
(.ops [⟨(some 3), none, (.a (.box (.tmp 1))), 0, []⟩])
(.seq
(.ops [⟨(some 4), none, (.p (.mv (.c (.int .i64 0)))), 0, []⟩])
(.seq
(.seq
(.ops [⟨(some 11), none, (.p (.mv (.tmp 0))), 0, []⟩,
⟨(some 12), none, (.p (.nilchk (.tmp 11))), 0, []⟩,
⟨(some 13), none, (.p (.fieldAt 1 (.tmp 12))), 0, []⟩,
⟨(some 14), none, (.r (.load 1 false (.tmp 13))), 0, []⟩,
⟨(some 15), none, (.p (.nilchk (.tmp 14))), 0, []⟩,
⟨(some 16), none, (.p (.fieldAt 0 (.tmp 15))), 0, []⟩,
⟨(some 17), none, (.r (.load 1 false (.tmp 16))), 0, []⟩,
⟨(some 18), none, (.p (.lenSl (.tmp 17))), 0, []⟩,
⟨(some 19), none, (.p (.mv (.c (.int .i64 0)))), 0, []⟩])
(.block 0 (.loop (.seq
(.ops [⟨(some 20), none, (.p (.bin .lss (.tmp 19) (.tmp 18))), 0, []⟩])
(.seq
(.cond (.tmp 20)
.skip
(.exit 0))
(.seq
(.block 1 (.seq
(.ops [⟨(some 21), none, (.p (.mv (.tmp 19))), 0, []⟩,
⟨(some 22), none, (.p (.idxSl 7 (.tmp 17) (.tmp 19))), 0, []⟩,
⟨(some 23), none, (.r (.load 7 true (.tmp 22))), 0, []⟩,
⟨(some 6), none, (.a (.alloc [(.str []), .nilsl, .nilsl, (.str []), (.str []), (.int .i64 0), .nilsl])), 0, []⟩,
⟨(some 5), none, (.p (.mv (.tmp 21))), 0, []⟩,
⟨none, none, (.h (.store 7 (.tmp 6) (.tmp 23))), 0, []⟩])
(.seq
(.ops [⟨(some 24), none, (.p (.fieldAt 0 (.tmp 6))), 0, []⟩,
⟨(some 25), none, (.r (.load 1 false (.tmp 24))), 0, []⟩,
⟨(some 26), none, (.p (.fieldAt 1 (.tmp 3))), 0, []⟩,
⟨(some 27), none, (.r (.load 1 false (.tmp 26))), 0, []⟩,
⟨(some 28), none, (.p (.bin .eql (.tmp 25) (.tmp 27))), 0, []⟩])
(.cond (.tmp 28)
(.ops [⟨(some 29), none, (.p (.mv (.tmp 5))), 0, []⟩,
⟨(some 4), none, (.p (.mv (.tmp 29))), 0, []⟩])
.skip))))
(.ops [⟨(some 30), none, (.p (.bin .add (.tmp 19) (.c (.int .i64 1)))), 0, []⟩,
⟨(some 19), none, (.p (.mv (.tmp 30))), 0, []⟩])))))))
(.seq
(.seq
(.ops [⟨(some 31), none, (.p (.fieldAt 3 (.tmp 3))), 0, []⟩,
⟨(some 32), none, (.r (.load 1 false (.tmp 31))), 0, []⟩,
⟨(some 33), none, (.p (.lenSl (.tmp 32))), 0, []⟩,
⟨(some 34), none, (.p (.mv (.c (.int .i64 0)))), 0, []⟩])
(.block 2 (.loop (.seq
(.ops [⟨(some 35), none, (.p (.bin .lss (.tmp 34) (.tmp 33))), 0, []⟩])
(.seq
(.cond (.tmp 35)
.skip
(.exit 2))
(.seq
(.block 3 (.seq
(.ops [⟨(some 36), none, (.p (.mv (.tmp 34))), 0, []⟩,
⟨(some 37), none, (.p (.idxSl 4 (.tmp 32) (.tmp 34))), 0, []⟩,
⟨(some 38), none, (.r (.load 4 true (.tmp 37))), 0, []⟩,
⟨(some 8), none, (.a (.alloc [(.str []), (.str []), (.int .i64 0), .nilsl])), 0, []⟩,
⟨(some 7), none, (.p (.mv (.tmp 36))), 0, []⟩,
⟨none, none, (.h (.store 4 (.tmp 8) (.tmp 38))), 0, []⟩])
(.seq
(.ops [⟨(some 39), none, (.p (.mv (.tmp 0))), 0, []⟩,
⟨(some 40), none, (.p (.nilchk (.tmp 39))), 0, []⟩,
⟨(some 41), none, (.p (.fieldAt 1 (.tmp 40))), 0, []⟩,
⟨(some 42), none, (.r (.load 1 false (.tmp 41))), 0, []⟩,
⟨(some 43), none, (.p (.nilchk (.tmp 42))), 0, []⟩,
⟨(some 44), none, (.p (.fieldAt 0 (.tmp 43))), 0, []⟩,
⟨(some 45), none, (.r (.load 1 false (.tmp 44))), 0, []⟩,
⟨(some 46), none, (.p (.mv (.tmp 4))), 0, []⟩,
⟨(some 47), none, (.p (.idxSl 7 (.tmp 45) (.tmp 46))), 0, []⟩,
⟨(some 48), none, (.p (.fieldAt 2 (.tmp 47))), 0, []⟩,
⟨(some 49), none, (.r (.load 1 false (.tmp 48))), 0, []⟩,
⟨(some 50), none, (.p (.mv (.tmp 7))), 0, []⟩,
⟨(some 51), none, (.p (.idxSl 1 (.tmp 49) (.tmp 50))), 0, []⟩,
⟨(some 52), none, (.r (.load 1 false (.tmp 51))), 0, []⟩])
(.cond (.tmp 52)
(.seq
(.ops [⟨(some 54), none, (.p (.mv (.tmp 0))), 0, []⟩,
⟨(some 55), none, (.p (.fieldAt 1 (.tmp 8))), 0, []⟩,
⟨(some 56), none, (.r (.load 1 false (.tmp 55))), 0, []⟩,
⟨(some 57), none, (.h (.call (.c (.fn 41 [] [])) [(.tmp 54), (.tmp 56)])), 0, []⟩,
⟨(some 53), none, (.p (.mv (.tmp 57))), 0, []⟩,
⟨(some 58), none, (.p (.ext (.tmp 53) 0)), 0, []⟩,
⟨(some 59), none, (.p (.ext (.tmp 53) 1)), 0, []⟩,
⟨(some 9), none, (.p (.mv (.tmp 58))), 0, []⟩,
⟨(some 10), none, (.p (.mv (.tmp 59))), 0, []⟩])
(.ops [⟨(some 60), none, (.p (.mv (.tmp 0))), 0, []⟩,
⟨(some 61), none, (.p (.mv (.tmp 9))), 0, []⟩,
⟨(some 62), none, (.p (.mv (.tmp 10))), 0, []⟩,
⟨(some 63), none, (.h (.call (.c (.fn 23 [] [])) [(.tmp 60), (.c (.int .i64 22)), (.tmp 61), (.tmp 62)])), 0, []⟩]))
(.ops [⟨(some 64), none, (.p (.mv (.tmp 0))), 0, []⟩,
⟨(some 65), none, (.r (.load 4 true (.tmp 8))), 0, []⟩,
⟨(some 66), none, (.h (.call (.c (.fn 36 [] [])) [(.tmp 64), (.tmp 65)])), 0, []⟩])))))
(.ops [⟨(some 67), none, (.p (.bin .add (.tmp 34) (.c (.int .i64 1)))), 0, []⟩,
⟨(some 34), none, (.p (.mv (.tmp 67))), 0, []⟩])))))))
(.ops [⟨(some 68), none, (.p (.mv (.tmp 0))), 0, []⟩,
⟨(some 69), none, (.p (.mv (.tmp 4))), 0, []⟩,
⟨(some 70), none, (.p (.fieldAt 3 (.tmp 3))), 0, []⟩,
⟨(some 71), none, (.r (.load 1 false (.tmp 70))), 0, []⟩,
⟨(some 72), none, (.p (.lenSl (.tmp 71))), 0, []⟩,
⟨(some 73), none, (.h (.call (.c (.fn 23 [] [])) [(.tmp 68), (.c (.int .i64 21)), (.tmp 69), (.tmp 72)])), 0, []⟩])))))⟩
theorem c73 : Mir.compF Tryz.prog Tryz.f73 = some g73 := by kernel_rfl
/-- (*scribe/code.compiler).builtin -/
def g74 : Mir.Fn := ⟨104, [],
(.seq
(.ops [⟨(some 3), none, (.a (.box (.tmp 1))), 0, []⟩])
(.seq
(.draw [⟨(some 10), none, (.r (.load 1 false (.glob 1))), 0, []⟩,
⟨(some 11), none, (.p (.fieldAt 1 (.tmp 3))), 1, []⟩,
⟨(some 12), none, (.r (.load 1 false (.tmp 11))), 2, []⟩,
⟨(some 14), none, (.p (.fieldAt 3 (.tmp 3))), 4, []⟩,
⟨(some 15), none, (.r (.load 1 false (.tmp 14))), 5, []⟩,
⟨(some 16), none, (.p (.lenSl (.tmp 15))), 6, []⟩,
⟨(some 13), none, (.h (.call (.c (.fn 19 [] [])) [(.tmp 10), (.tmp 12)])), 3, [5]⟩,
⟨(some 4), none, (.p (.mv (.tmp 13))), 7, []⟩,
⟨(some 5), none, (.p (.mv (.tmp 16))), 8, []⟩])
(.seq
(.seq
(.ops [⟨(some 17), none, (.p (.fieldAt 1 (.tmp 3))), 0, []⟩,
⟨(some 18), none, (.r (.load 1 false (.tmp 17))), 0, []⟩])
(.block 0 (.seq
(.seq
(.ops [⟨(some 31), none, (.p (.bin .eql (.tmp 18) (.c (.str [115, 117, 98])))), 0, []⟩,
⟨(some 30), none, (.p (.mv (.tmp 31))), 0, []⟩])
(.cond (.tmp 30)
.skip
(.ops [⟨(some 32), none, (.p (.bin .eql (.tmp 18) (.c (.str [103, 115, 117, 98])))), 0, []⟩,
⟨(some 30), none, (.p (.mv (.tmp 32))), 0, []⟩])))
(.cond (.tmp 30)
(.seq
(.ops [⟨(some 33), none, (.p (.mv (.tmp 0))), 0, []⟩,
⟨(some 34), none, (.r (.load 4 true (.tmp 3))), 0, []⟩,
⟨(some 35), none, (.h (.call (.c (.fn 101 [] [])) [(.tmp 33), (.tmp 34)])), 0, []⟩])
.ret)
(.seq
(.ops [⟨(some 37), none, (.p (.bin .eql (.tmp 18) (.c (.str [108, 101, 110, 103, 116, 104])))), 0, []⟩,
⟨(some 36), none, (.p (.mv (.tmp 37))), 0, []⟩])
(.cond (.tmp 36)
(.seq
(.ops [⟨(some 38), none, (.p (.mv (.tmp 5))), 0, []⟩,
⟨(some 39), none, (.p (.bin .eql (.tmp 38) (.c (.int .i64 0)))), 0, []⟩])
(.cond (.tmp 39)
(.seq
(.ops [⟨(some 40), none, (.p (.mv (.tmp 0))), 0, []⟩,
⟨(some 41), none, (.h (.call (.c (.fn 67 [] [])) [(.tmp 40), (.c (.int .i64 0))])), 0, []⟩])
(.seq
(.ops [⟨(some 42), none, (.p (.mv (.tmp 0))), 0, []⟩,
⟨(some 43), none, (.h (.call (.c (.fn 23 [] [])) [(.tmp 42), (.c (.int .i64 4)), (.c (.int .i64 0)), (.c (.int .i64 0))])), 0, []⟩])
(.ops [⟨(some 5), none, (.p (.mv (.c (.int .i64 1)))), 0, []⟩])))
(.ops [⟨(some 44), none, (.p (.mv (.tmp 0))), 0, []⟩,
⟨(some 45), none, (.p (.fieldAt 3 (.tmp 3))), 0, []⟩,
⟨(some 46), none, (.r (.load 1 false (.tmp 45))), 0, []⟩,
⟨(some 47), none, (.p (.idxSl 4 (.tmp 46) (.c (.int .i64 0)))), 0, []⟩,
⟨(some 48), none, (.r (.load 4 true (.tmp 47))), 0, []⟩,
⟨(some 49), none, (.h (.call (.c (.fn 36 [] [])) [(.tmp 44), (.tmp 48)])), 0, []⟩])))
(.seq
(.ops [⟨(some 51), none, (.p (.bin .eql (.tmp 18) (.c (.str [115, 112, 108, 105, 116])))), 0, []⟩,
⟨(some 50), none, (.p (.mv (.tmp 51))), 0, []⟩])
(.cond (.tmp 50)
(.seq
(.ops [⟨(some 52), none, (.p (.mv (.tmp 0))), 0, []⟩,
⟨(some 53), none, (.p (.fieldAt 3 (.tmp 3))), 0, []⟩,
⟨(some 54), none, (.r (.load 1 false (.tmp 53))), 0, []⟩,
⟨(some 55), none, (.p (.idxSl 4 (.tmp 54) (.c (.int .i64 0)))), 0, []⟩,
⟨(some 56), none, (.r (.load 4 true (.tmp 55))), 0, []⟩,
⟨(some 57), none, (.h (.call (.c (.fn 36 [] [])) [(.tmp 52), (.tmp 56)])), 0, []⟩])
(.seq
(.ops [⟨(some 59), none, (.p (.mv (.tmp 0))), 0, []⟩,
⟨(some 60), none, (.p (.fieldAt 3 (.tmp 3))), 0, []⟩,
⟨(some 61), none, (.r (.load 1 false (.tmp 60))), 0, []⟩,
⟨(some 62), none, (.p (.idxSl 4 (.tmp 61) (.c (.int .i64 1)))), 0, []⟩,
⟨(some 63), none, (.p (.fieldAt 1 (.tmp 62))), 0, []⟩,
⟨(some 64), none, (.r (.load 1 false (.tmp 63))), 0, []⟩,
⟨(some 65), none, (.h (.call (.c (.fn 41 [] [])) [(.tmp 59), (.tmp 64)])), 0, []⟩,
⟨(some 58), none, (.p (.mv (.tmp 65))), 0, []⟩,
⟨(some 66), none, (.p (.ext (.tmp 58) 0)), 0, []⟩,
⟨(some 67), none, (.p (.ext (.tmp 58) 1)), 0, []⟩,
⟨(some 6), none, (.p (.mv (.tmp 66))), 0, []⟩,
⟨(some 7), none, (.p (.mv (.tmp 67))), 0, []⟩])
(.seq
(.ops [⟨(some 68), none, (.p (.mv (.tmp 0))), 0, []⟩,
⟨(some 69), none, (.p (.mv (.tmp 6))), 0, []⟩,
⟨(some 70), none, (.p (.mv (.tmp 7))), 0, []⟩,
⟨(some 71), none, (.h (.call (.c (.fn 23 [] [])) [(.tmp 68), (.c (.int .i64 22)), (.tmp 69), (.tmp 70)])), 0, []⟩])
(.seq
(.ops [⟨(some 72), none, (.p (.mv (.tmp 5))), 0, []⟩,
⟨(some 73), none, (.p (.bin .eql (.tmp 72) (.c (.int .i64 3)))), 0, []⟩])
(.cond (.tmp 73)
(.seq
(.ops [⟨(some 74), none, (.p (.mv (.tmp 0))), 0, []⟩,
⟨(some 75), none, (.p (.fieldAt 3 (.tmp 3))), 0, []⟩,
⟨(some 76), none, (.r (.load 1 false (.tmp 75))), 0, []⟩,
⟨(some 77), none, (.p (.idxSl 4 (.tmp 76) (.c (.int .i64 2)))), 0, []⟩,
⟨(some 78), none, (.r (.load 4 true (.tmp 77))), 0, []⟩,
⟨(some 79), none, (.h (.call (.c (.fn 72 [] [])) [(.tmp 74), (.tmp 78)])), 0, []⟩])
(.seq
(.ops [⟨(some 80), none, (.p (.fieldAt 3 (.tmp 3))), 0, []⟩,
⟨(some 81), none, (.r (.load 1 false (.tmp 80))), 0, []⟩,
⟨(some 82), none, (.p (.idxSl 4 (.tmp 81) (.c (.int .i64 2)))), 0, []⟩,
⟨(some 83), none, (.p (.fieldAt 0 (.tmp 82))), 0, []⟩,
⟨(some 84), none, (.r (.load 1 false (.tmp 83))), 0, []⟩,
⟨(some 85), none, (.p (.bin .eql (.tmp 84) (.c (.str [114, 101])))), 0, []⟩])
(.cond (.tmp 85)
(.ops [⟨(some 5), none, (.p (.mv (.c (.int .i64 4)))), 0, []⟩])
.skip)))
.skip)))))
(.seq
(.ops [⟨(some 87), none, (.p (.bin .eql (.tmp 18) (.c (.str [109, 97, 116, 99, 104])))), 0, []⟩,
⟨(some 86), none, (.p (.mv (.tmp 87))), 0, []⟩])
(.cond (.tmp 86)
(.seq
(.ops [⟨(some 88), none, (.p (.mv (.tmp 0))), 0, []⟩,
⟨(some 89), none, (.p (.fieldAt 3 (.tmp 3))), 0, []⟩,
⟨(some 90), none, (.r (.load 1 false (.tmp 89))), 0, []⟩,
⟨(some 91), none, (.p (.idxSl 4 (.tmp 90) (.c (.int .i64 0)))), 0, []⟩,
⟨(some 92), none, (.r (.load 4 true (.tmp 91))), 0, []⟩,
⟨(some 93), none, (.h (.call (.c (.fn 36 [] [])) [(.tmp 88), (.tmp 92)])), 0, []⟩])
(.ops [⟨(some 94), none, (.p (.mv (.tmp 0))), 0, []⟩,
⟨(some 95), none, (.p (.fieldAt 3 (.tmp 3))), 0, []⟩,
⟨(some 96), none, (.r (.load 1 false (.tmp 95))), 0, []⟩,
⟨(some 97), none, (.p (.idxSl 4 (.tmp 96) (.c (.int .i64 1)))), 0, []⟩,
⟨(some 98), none, (.r (.load 4 true (.tmp 97))), 0, []⟩,
⟨(some 99), none, (.h (.call (.c (.fn 72 [] [])) [(.tmp 94), (.tmp 98)])), 0, []⟩]))
(.seq
(.ops [⟨(some 19), none, (.p (.fieldAt 3 (.tmp 3))), 0, []⟩,
⟨(some 20), none, (.r (.load 1 false (.tmp 19))), 0, []⟩,
⟨(some 21), none, (.p (.lenSl (.tmp 20))), 0, []⟩,
⟨(some 22), none, (.p (.mv (.c (.int .i64 0)))), 0, []⟩])
(.block 1 (.loop (.seq
(.ops [⟨(some 23), none, (.p (.bin .lss (.tmp 22) (.tmp 21))), 0, []⟩])
(.seq
(.cond (.tmp 23)
.skip
(.exit 1))
(.seq
(.block 2 (.seq
(.ops [⟨(some 24), none, (.p (.idxSl 4 (.tmp 20) (.tmp 22))), 0, []⟩,
⟨(some 25), none, (.r (.load 4 true (.tmp 24))), 0, []⟩,
⟨(some 9), none, (.a (.alloc [(.str []), (.str []), (.int .i64 0), .nilsl])), 0, []⟩,
⟨none, none, (.h (.store 4 (.tmp 9) (.tmp 25))), 0, []⟩])
(.ops [⟨(some 26), none, (.p (.mv (.tmp 0))), 0, []⟩,
⟨(some 27), none, (.r (.load 4 true (.tmp 9))), 0, []⟩,
⟨(some 28), none, (.h (.call (.c (.fn 36 [] [])) [(.tmp 26), (.tmp 27)])), 0, []⟩])))
(.ops [⟨(some 29), none, (.p (.bin .add (.tmp 22) (.c (.int .i64 1)))), 0, []⟩,
⟨(some 22), none, (.p (.mv (.tmp 29))), 0, []⟩])))))))))))))))))
(.ops [⟨(some 100), none, (.p (.mv (.tmp 0))), 0, []⟩,
⟨(some 101), none, (.p (.mv (.tmp 4))), 0, []⟩,
⟨(some 102), none, (.p (.mv (.tmp 5))), 0, []⟩,
⟨(some 103), none, (.h (.call (.c (.fn 23 [] [])) [(.tmp 100), (.c (.int .i64 24)), (.tmp 101), (.tmp 102)])), 0, []⟩]))))⟩
theorem c74 : Mir.compF Tryz.prog Tryz.f74 = some g74 := by kernel_rfl
/-- (*scribe/code.checker).want -/
def g75 : Mir.Fn := ⟨240, [(.tmp 6), (.tmp 7), (.tmp 8)],
(.seq
(.ops [⟨(some 4), none, (.a (.box (.tmp 1))), 0, []⟩,
⟨(some 5), none, (.a (.box (.tmp 2))), 0, []⟩,
⟨(some 6), none, (.p (.mv (.c (.str [])))), 0, []⟩,
⟨(some 7), none, (.p (.mv (.c (.str [])))), 0, []⟩,
⟨(some 8), none, (.p (.mv (.c (.bool false)))), 0, []⟩])
(.seq
(.ops [⟨(some 12), none, (.p (.fieldAt 2 (.tmp 5))), 0, []⟩,
⟨(some 13), none, (.r (.load 1 false (.tmp 12))), 0, []⟩,
⟨(some 14), none, (.p (.bin .shr (.tmp 13) (.c (.int .u64 1)))), 0, []⟩,
⟨(some 9), none, (.p (.mv (.tmp 14))), 0, []⟩])
(.seq
(.ops [⟨(some 15), none, (.p (.mv (.tmp 9))), 0, []⟩,
⟨(some 16), none, (.p (.bin .geq (.tmp 15) (.c (.int .i64 0)))), 0, []⟩,
⟨(some 17), none, (.p (.mv (.tmp 16))), 0, []⟩,
⟨(some 18), (some (17, true)), (.p (.mv (.tmp 9))), 0, []⟩,
⟨(some 19), (some (17, true)), (.r (.load 1 false (.glob 3))), 0, []⟩,
⟨(some 20), (some (17, true)), (.p (.lenSl (.tmp 19))), 0, []⟩,
⟨(some 21), (some (17, true)), (.p (.bin .lss (.tmp 18) (.tmp 20))), 0, []⟩,
⟨(some 22), none, (.p (.pick (.tmp 17) (.tmp 21) (.c (.bool false)))), 0, []⟩,
⟨(some 10), none, (.p (.mv (.tmp 22))), 0, []⟩])
(.seq
(.ops [⟨(some 11), none, (.p (.mv (.c (.str [118])))), 0, []⟩])
(.seq
(.seq
(.ops [⟨(some 23), none, (.p (.mv (.tmp 9))), 0, []⟩,
⟨(some 24), none, (.p (.bin .gtr (.tmp 23) (.c (.int .i64 5)))), 0, []⟩])
(.cond (.tmp 24)
(.ops [⟨(some 11), none, (.p (.mv (.c (.str [])))), 0, []⟩])
.skip))
(.seq
(.seq
(.ops [⟨(some 25), none, (.p (.fieldAt 0 (.tmp 5))), 0, []⟩,
⟨(some 26), none, (.r (.load 1 false (.tmp 25))), 0, []⟩])
(.block 0 (.seq
(.ops [⟨(some 28), none, (.p (.bin .eql (.tmp 26) (.c (.int .i64 1)))), 0, []⟩,
⟨(some 27), none, (.p (.mv (.tmp 28))), 0, []⟩])
(.cond (.tmp 27)
(.seq
(.draw [⟨(some 29), none, (.p (.fieldAt 1 (.tmp 5))), 0, []⟩,
⟨(some 30), none, (.r (.load 1 false (.tmp 29))), 1, []⟩,
⟨(some 31), none, (.p (.bin .geq (.tmp 30) (.c (.int .i64 0)))), 2, []⟩,
⟨(some 32), none, (.p (.mv (.tmp 31))), 3, []⟩,
⟨(some 33), (some (32, true)), (.p (.fieldAt 1 (.tmp 5))), 4, []⟩,
⟨(some 34), (some (32, true)), (.r (.load 1 false (.tmp 33))), 5, []⟩,
⟨(some 35), (some (32, true)), (.p (.mv (.tmp 0))), 6, []⟩,
⟨(some 36), (some (32, true)), (.p (.nilchk (.tmp 35))), 7, []⟩,
⟨(some 37), (some (32, true)), (.p (.fieldAt 0 (.tmp 36))), 8, []⟩,
⟨(some 38), (some (32, true)), (.r (.load 1 false (.tmp 37))), 9, []⟩,
⟨(some 39), (some (32, true)), (.p (.nilchk (.tmp 38))), 10, []⟩,
⟨(some 40), (some (32, true)), (.p (.fieldAt 1 (.tmp 39))), 11, []⟩,
⟨(some 41), (some (32, true)), (.r (.load 1 false (.tmp 40))), 12, []⟩,
⟨(some 42), (some (32, true)), (.p (.lenSl (.tmp 41))), 13, []⟩,
⟨(some 43), (some (32, true)), (.p (.bin .lss (.tmp 34) (.tmp 42))), 14, []⟩,
⟨(some 44), none, (.p (.pick (.tmp 32) (.tmp 43) (.c (.bool false)))), 15, []⟩,
⟨(some 6), none, (.p (.mv (.c (.str [])))), 16, []⟩,
⟨(some 7), none, (.p (.mv (.c (.str [118])))), 17, []⟩,
⟨(some 8), none, (.p (.mv (.tmp 44))), 18, []⟩])
.ret)
(.seq
(.ops [⟨(some 46), none, (.p (.bin .eql (.tmp 26) (.c (.int .i64 2)))), 0, []⟩,
⟨(some 45), none, (.p (.mv (.tmp 46))), 0, []⟩])
(.cond (.tmp 45)
(.seq
(.draw [⟨(some 47), none, (.p (.fieldAt 1 (.tmp 5))), 0, []⟩,
⟨(some 48), none, (.r (.load 1 false (.tmp 47))), 1, []⟩,
⟨(some 49), none, (.p (.bin .geq (.tmp 48) (.c (.int .i64 0)))), 2, []⟩,
⟨(some 50), none, (.p (.mv (.tmp 49))), 3, []⟩,
⟨(some 51), (some (50, true)), (.p (.fieldAt 1 (.tmp 5))), 4, []⟩,
⟨(some 52), (some (50, true)), (.r (.load 1 false (.tmp 51))), 5, []⟩,
⟨(some 53), (some (50, true)), (.p (.mv (.tmp 0))), 6, []⟩,
⟨(some 54), (some (50, true)), (.p (.nilchk (.tmp 53))), 7, []⟩,
⟨(some 55), (some (50, true)), (.p (.fieldAt 0 (.tmp 54))), 8, []⟩,
⟨(some 56), (some (50, true)), (.r (.load 1 false (.tmp 55))), 9, []⟩,
⟨(some 57), (some (50, true)), (.p (.nilchk (.tmp 56))), 10, []⟩,
⟨(some 58), (some (50, true)), (.p (.fieldAt 2 (.tmp 57))), 11, []⟩,
⟨(some 59), (some (50, true)), (.r (.load 1 false (.tmp 58))), 12, []⟩,
⟨(some 60), (some (50, true)), (.p (.lenSl (.tmp 59))), 13, []⟩,
⟨(some 61), (some (50, true)), (.p (.bin .lss (.tmp 52) (.tmp 60))), 14, []⟩,
⟨(some 62), none, (.p (.pick (.tmp 50) (.tmp 61) (.c (.bool false)))), 15, []⟩,
⟨(some 6), none, (.p (.mv (.c (.str [])))), 16, []⟩,
⟨(some 7), none, (.p (.mv (.c (.str [118])))), 17, []⟩,
⟨(some 8), none, (.p (.mv (.tmp 62))), 18, []⟩])
.ret)
(.seq
(.ops [⟨(some 64), none, (.p (.bin .eql (.tmp 26) (.c (.int .i64 3)))), 0, []⟩,
⟨(some 63), none, (.p (.mv (.tmp 64))), 0, []⟩])
(.cond (.tmp 63)
(.seq
(.ops [⟨(some 65), none, (.p (.mv (.tmp 0))), 0, []⟩,
⟨(some 66), none, (.p (.fieldAt 0 (.tmp 4))), 0, []⟩,
⟨(some 67), none, (.r (.load 1 false (.tmp 66))), 0, []⟩,
⟨(some 68), none, (.p (.fieldAt 1 (.tmp 5))), 0, []⟩,
⟨(some 69), none, (.r (.load 1 false (.tmp 68))), 0, []⟩,
⟨(some 70), none, (.p (.fieldAt 2 (.tmp 5))), 0, []⟩,
⟨(some 71), none, (.r (.load 1 false (.tmp 70))), 0, []⟩,
⟨(some 72), none, (.h (.call (.c (.fn 102 [] [])) [(.tmp 65), (.tmp 67), (.tmp 69), (.tmp 71), (.c (.bool false))])), 0, []⟩,
⟨(some 6), none, (.p (.mv (.c (.str [])))), 0, []⟩,
⟨(some 7), none, (.p (.mv (.c (.str [118])))), 0, []⟩,
⟨(some 8), none, (.p (.mv (.tmp 72))), 0, []⟩])
.ret)
(.seq
(.ops [⟨(some 74), none, (.p (.bin .eql (.tmp 26) (.c (.int .i64 26)))), 0, []⟩,
⟨(some 73), none, (.p (.mv (.tmp 74))), 0, []⟩])
(.cond (.tmp 73)
(.seq
(.ops [⟨(some 6), none, (.p (.mv (.c (.str [])))), 0, []⟩,
⟨(some 7), none, (.p (.mv (.c (.str [118])))), 0, []⟩,
⟨(some 8), none, (.p (.mv (.c (.bool true)))), 0, []⟩])
.ret)
(.seq
(.ops [⟨(some 76), none, (.p (.bin .eql (.tmp 26) (.c (.int .i64 22)))), 0, []⟩,
⟨(some 75), none, (.p (.mv (.tmp 76))), 0, []⟩])
(.cond (.tmp 75)
(.seq
(.ops [⟨(some 77), none, (.p (.mv (.tmp 0))), 0, []⟩,
⟨(some 78), none, (.p (.fieldAt 0 (.tmp 4))), 0, []⟩,
⟨(some 79), none, (.r (.load 1 false (.tmp 78))), 0, []⟩,
⟨(some 80), none, (.p (.fieldAt 1 (.tmp 5))), 0, []⟩,
⟨(some 81), none, (.r (.load 1 false (.tmp 80))), 0, []⟩,
⟨(some 82), none, (.p (.fieldAt 2 (.tmp 5))), 0, []⟩,
⟨(some 83), none, (.r (.load 1 false (.tmp 82))), 0, []⟩,
⟨(some 84), none, (.h (.call (.c (.fn 102 [] [])) [(.tmp 77), (.tmp 79), (.tmp 81), (.tmp 83), (.c (.bool true))])), 0, []⟩,
⟨(some 6), none, (.p (.mv (.c (.str [])))), 0, []⟩,
⟨(some 7), none, (.p (.mv (.c (.str [97])))), 0, []⟩,
⟨(some 8), none, (.p (.mv (.tmp 84))), 0, []⟩])
.ret)
(.seq
(.seq
(.ops [⟨(some 86), none, (.p (.bin .eql (.tmp 26) (.c (.int .i64 4)))), 0, []⟩,
⟨(some 85), none, (.p (.mv (.tmp 86))), 0, []⟩])
(.cond (.tmp 85)
.skip
(.ops [⟨(some 87), none, (.p (.bin .eql (.tmp 26) (.c (.int .i64 19)))), 0, []⟩,
⟨(some 85), none, (.p (.mv (.tmp 87))), 0, []⟩])))
(.cond (.tmp 85)
(.seq
(.ops [⟨(some 6), none, (.p (.mv (.c (.str [118])))), 0, []⟩,
⟨(some 7), none, (.p (.mv (.c (.str [118])))), 0, []⟩,
⟨(some 8), none, (.p (.mv (.c (.bool true)))), 0, []⟩])
.ret)
(.seq
(.ops [⟨(some 89), none, (.p (.bin .eql (.tmp 26) (.c (.int .i64 10)))), 0, []⟩,
⟨(some 88), none, (.p (.mv (.tmp 89))), 0, []⟩])
(.cond (.tmp 88)
(.seq
(.draw [⟨(some 90), none, (.p (.fieldAt 1 (.tmp 5))), 0, []⟩,
⟨(some 91), none, (.r (.load 1 false (.tmp 90))), 1, []⟩,
⟨(some 92), none, (.p (.bin .geq (.tmp 91) (.c (.int .i64 0)))), 2, []⟩,
⟨(some 93), none, (.p (.mv (.tmp 92))), 3, []⟩,
⟨(some 94), (some (93, true)), (.p (.fieldAt 1 (.tmp 5))), 4, []⟩,
⟨(some 95), (some (93, true)), (.r (.load 1 false (.tmp 94))), 5, []⟩,
⟨(some 96), (some (93, true)), (.r (.load 1 false (.glob 4))), 6, []⟩,
⟨(some 97), (some (93, true)), (.p (.lenSl (.tmp 96))), 7, []⟩,
⟨(some 98), (some (93, true)), (.p (.bin .lss (.tmp 95) (.tmp 97))), 8, []⟩,
⟨(some 99), none, (.p (.pick (.tmp 93) (.tmp 98) (.c (.bool false)))), 9, []⟩,
⟨(some 6), none, (.p (.mv (.c (.str [118])))), 10, []⟩,
⟨(some 7), none, (.p (.mv (.c (.str [118])))), 11, []⟩,
⟨(some 8), none, (.p (.mv (.tmp 99))), 12, []⟩])
.ret)
(.seq
(.ops [⟨(some 101), none, (.p (.bin .eql (.tmp 26) (.c (.int .i64 9)))), 0, []⟩,
⟨(some 100), none, (.p (.mv (.tmp 101))), 0, []⟩])
(.cond (.tmp 100)
(.seq
(.draw [⟨(some 102), none, (.p (.fieldAt 1 (.tmp 5))), 0, []⟩,
⟨(some 103), none, (.r (.load 1 false (.tmp 102))), 1, []⟩,
⟨(some 104), none, (.p (.bin .geq (.tmp 103) (.c (.int .i64 0)))), 2, []⟩,
⟨(some 105), none, (.p (.mv (.tmp 104))), 3, []⟩,
⟨(some 106), (some (105, true)), (.p (.fieldAt 1 (.tmp 5))), 4, []⟩,
⟨(some 107), (some (105, true)), (.r (.load 1 false (.tmp 106))), 5, []⟩,
⟨(some 108), (some (105, true)), (.r (.load 1 false (.glob 5))), 6, []⟩,
⟨(some 109), (some (105, true)), (.p (.lenSl (.tmp 108))), 7, []⟩,
⟨(some 110), (some (105, true)), (.p (.bin .lss (.tmp 107) (.tmp 109))), 8, []⟩,
⟨(some 111), none, (.p (.pick (.tmp 105) (.tmp 110) (.c (.bool false)))), 9, []⟩,
⟨(some 6), none, (.p (.mv (.c (.str [118, 118])))), 10, []⟩,
⟨(some 7), none, (.p (.mv (.c (.str [118])))), 11, []⟩,
⟨(some 8), none, (.p (.mv (.tmp 111))), 12, []⟩])
.ret)
(.seq
(.ops [⟨(some 113), none, (.p (.bin .eql (.tmp 26) (.c (.int .i64 11)))), 0, []⟩,
⟨(some 112), none, (.p (.mv (.tmp 113))), 0, []⟩])
(.cond (.tmp 112)
(.seq
(.draw [⟨(some 114), none, (.p (.fieldAt 1 (.tmp 5))), 0, []⟩,
⟨(some 115), none, (.r (.load 1 false (.tmp 114))), 1, []⟩,
⟨(some 116), none, (.p (.bin .eql (.tmp 115) (.c (.int .i64 0)))), 2, []⟩,
⟨(some 117), none, (.p (.mv (.tmp 116))), 3, []⟩,
⟨(some 118), (some (117, false)), (.p (.fieldAt 1 (.tmp 5))), 4, []⟩,
⟨(some 119), (some (117, false)), (.r (.load 1 false (.tmp 118))), 5, []⟩,
⟨(some 120), (some (117, false)), (.p (.bin .eql (.tmp 119) (.c (.int .i64 1)))), 6, []⟩,
⟨(some 121), none, (.p (.pick (.tmp 117) (.c (.bool true)) (.tmp 120))), 7, []⟩,
⟨(some 6), none, (.p (.mv (.c (.str [118, 118])))), 8, []⟩,
⟨(some 7), none, (.p (.mv (.c (.str [118])))), 9, []⟩,
⟨(some 8), none, (.p (.mv (.tmp 121))), 10, []⟩])
.ret)
(.seq
(.seq
(.ops [⟨(some 123), none, (.p (.bin .eql (.tmp 26) (.c (.int .i64 5)))), 0, []⟩,
⟨(some 122), none, (.p (.mv (.tmp 123))), 0, []⟩])
(.cond (.tmp 122)
.skip
(.ops [⟨(some 124), none, (.p (.bin .eql (.tmp 26) (.c (.int .i64 12)))), 0, []⟩,
⟨(some 122), none, (.p (.mv (.tmp 124))), 0, []⟩])))
(.cond (.tmp 122)
(.seq
(.ops [⟨(some 125), none, (.p (.mv (.tmp 0))), 0, []⟩,
⟨(some 126), none, (.p (.fieldAt 0 (.tmp 4))), 0, []⟩,
⟨(some 127), none, (.r (.load 1 false (.tmp 126))), 0, []⟩,
⟨(some 128), none, (.p (.fieldAt 1 (.tmp 5))), 0, []⟩,
⟨(some 129), none, (.r (.load 1 false (.tmp 128))), 0, []⟩,
⟨(some 130), none, (.p (.fieldAt 2 (.tmp 5))), 0, []⟩,
⟨(some 131), none, (.r (.load 1 false (.tmp 130))), 0, []⟩,
⟨(some 132), none, (.h (.call (.c (.fn 102 [] [])) [(.tmp 125), (.tmp 127), (.tmp 129), (.tmp 131), (.c (.bool true))])), 0, []⟩,
⟨(some 6), none, (.p (.mv (.c (.str [118])))), 0, []⟩,
⟨(some 7), none, (.p (.mv (.c (.str [118])))), 0, []⟩,
⟨(some 8), none, (.p (.mv (.tmp 132))), 0, []⟩])
.ret)
(.seq
(.ops [⟨(some 134), none, (.p (.bin .eql (.tmp 26) (.c (.int .i64 6)))), 0, []⟩,
⟨(some 133), none, (.p (.mv (.tmp 134))), 0, []⟩])
(.cond (.tmp 133)
(.seq
(.ops [⟨(some 135), none, (.p (.mv (.tmp 11))), 0, []⟩,
⟨(some 136), none, (.p (.mv (.tmp 10))), 0, []⟩,
⟨(some 137), none, (.p (.mv (.tmp 136))), 0, []⟩,
⟨(some 138), (some (137, true)), (.p (.mv (.tmp 0))), 0, []⟩,
⟨(some 139), (some (137, true)), (.p (.fieldAt 0 (.tmp 4))), 0, []⟩,
⟨(some 140), (some (137, true)), (.r (.load 1 false (.tmp 139))), 0, []⟩,
⟨(some 141), (some (137, true)), (.p (.fieldAt 1 (.tmp 5))), 0, []⟩,
⟨(some 142), (some (137, true)), (.r (.load 1 false (.tmp 141))), 0, []⟩,
⟨(some 143), (some (137, true)), (.p (.fieldAt 2 (.tmp 5))), 0, []⟩,
⟨(some 144), (some (137, true)), (.r (.load 1 false (.tmp 143))), 0, []⟩,
⟨(some 145), (some (137, true)), (.p (.bin .and (.tmp 144) (.c (.int .i64 1)))), 0, []⟩,
⟨(some 146), (some (137, true)), (.h (.call (.c (.fn 102 [] [])) [(.tmp 138), (.tmp 140), (.tmp 142), (.tmp 145), (.c (.bool false))])), 0, []⟩,
⟨(some 147), none, (.p (.pick (.tmp 137) (.tmp 146) (.c (.bool false)))), 0, []⟩,
⟨(some 6), none, (.p (.mv (.tmp 135))), 0, []⟩,
⟨(some 7), none, (.p (.mv (.c (.str [118])))), 0, []⟩,
⟨(some 8), none, (.p (.mv (.tmp 147))), 0, []⟩])
.ret)
(.seq
(.ops [⟨(some 149), none, (.p (.bin .eql (.tmp 26) (.c (.int .i64 8)))), 0, []⟩,
⟨(some 148), none, (.p (.mv (.tmp 149))), 0, []⟩])
(.cond (.tmp 148)
(.seq
(.ops [⟨(some 150), none, (.p (.mv (.tmp 11))), 0, []⟩,
⟨(some 151), none, (.p (.bin .add (.c (.str [118])) (.tmp 150))), 0, []⟩,
⟨(some 152), none, (.p (.mv (.tmp 10))), 0, []⟩,
⟨(some 153), none, (.p (.mv (.tmp 152))), 0, []⟩,
⟨(some 154), (some (153, true)), (.p (.mv (.tmp 0))), 0, []⟩,
⟨(some 155), (some (153, true)), (.p (.fieldAt 0 (.tmp 4))), 0, []⟩,
⟨(some 156), (some (153, true)), (.r (.load 1 false (.tmp 155))), 0, []⟩,
⟨(some 157), (some (153, true)), (.p (.fieldAt 1 (.tmp 5))), 0, []⟩,
⟨(some 158), (some (153, true)), (.r (.load 1 false (.tmp 157))), 0, []⟩,
⟨(some 159), (some (153, true)), (.p (.fieldAt 2 (.tmp 5))), 0, []⟩,
⟨(some 160), (some (153, true)), (.r (.load 1 false (.tmp 159))), 0, []⟩,
⟨(some 161), (some (153, true)), (.p (.bin .and (.tmp 160) (.c (.int .i64 1)))), 0, []⟩,
⟨(some 162), (some (153, true)), (.h (.call (.c (.fn 102 [] [])) [(.tmp 154), (.tmp 156), (.tmp 158), (.tmp 161), (.c (.bool true))])), 0, []⟩,
⟨(some 163), none, (.p (.pick (.tmp 153) (.tmp 162) (.c (.bool false)))), 0, []⟩,
⟨(some 6), none, (.p (.mv (.tmp 151))), 0, []⟩,
⟨(some 7), none, (.p (.mv (.c (.str [118])))), 0, []⟩,
⟨(some 8), none, (.p (.mv (.tmp 163))), 0, []⟩])
.ret)
(.seq
(.ops [⟨(some 165), none, (.p (.bin .eql (.tmp 26) (.c (.int .i64 7)))), 0, []⟩,
⟨(some 164), none, (.p (.mv (.tmp 165))), 0, []⟩])
(.cond (.tmp 164)
(.seq
(.seq
(.ops [⟨(some 166), none, (.p (.fieldAt 2 (.tmp 5))), 0, []⟩,
⟨(some 167), none, (.r (.load 1 false (.tmp 166))), 0, []⟩,
⟨(some 168), none, (.p (.bin .gtr (.tmp 167) (.c (.int .i64 5)))), 0, []⟩])
(.cond (.tmp 168)
(.seq
(.draw [⟨(some 169), none, (.p (.fieldAt 2 (.tmp 5))), 0, []⟩,
⟨(some 170), none, (.r (.load 1 false (.tmp 169))), 1, []⟩,
⟨(some 171), none, (.r (.load 1 false (.glob 3))), 2, []⟩,
⟨(some 172), none, (.p (.lenSl (.tmp 171))), 3, []⟩,
⟨(some 173), none, (.p (.bin .lss (.tmp 170) (.tmp 172))), 4, []⟩,
⟨(some 6), none, (.p (.mv (.c (.str [118])))), 5, []⟩,
⟨(some 7), none, (.p (.mv (.c (.str [118])))), 6, []⟩,
⟨(some 8), none, (.p (.mv (.tmp 173))), 7, []⟩])
.ret)
.skip))
(.seq
(.draw [⟨(some 174), none, (.p (.fieldAt 2 (.tmp 5))), 0, []⟩,
⟨(some 175), none, (.r (.load 1 false (.tmp 174))), 1, []⟩,
⟨(some 176), none, (.p (.bin .geq (.tmp 175) (.c (.int .i64 0)))), 2, []⟩,
⟨(some 6), none, (.p (.mv (.c (.str [118, 118])))), 3, []⟩,
⟨(some 7), none, (.p (.mv (.c (.str [118])))), 4, []⟩,
⟨(some 8), none, (.p (.mv (.tmp 176))), 5, []⟩])
.ret))
(.seq
(.ops [⟨(some 178), none, (.p (.bin .eql (.tmp 26) (.c (.int .i64 13)))), 0, []⟩,
⟨(some 177), none, (.p (.mv (.tmp 178))), 0, []⟩])
(.cond (.tmp 177)
(.seq
(.ops [⟨(some 179), none, (.p (.mv (.tmp 0))), 0, []⟩,
⟨(some 180), none, (.p (.fieldAt 0 (.tmp 4))), 0, []⟩,
⟨(some 181), none, (.r (.load 1 false (.tmp 180))), 0, []⟩,
⟨(some 182), none, (.p (.fieldAt 1 (.tmp 5))), 0, []⟩,
⟨(some 183), none, (.r (.load 1 false (.tmp 182))), 0, []⟩,
⟨(some 184), none, (.p (.fieldAt 2 (.tmp 5))), 0, []⟩,
⟨(some 185), none, (.r (.load 1 false (.tmp 184))), 0, []⟩,
⟨(some 186), none, (.h (.call (.c (.fn 102 [] [])) [(.tmp 179), (.tmp 181), (.tmp 183), (.tmp 185), (.c (.bool true))])), 0, []⟩,
⟨(some 6), none, (.p (.mv (.c (.str [118])))), 0, []⟩,
⟨(some 7), none, (.p (.mv (.c (.str [])))), 0, []⟩,
⟨(some 8), none, (.p (.mv (.tmp 186))), 0, []⟩])
.ret)
(.seq
(.ops [⟨(some 188), none, (.p (.bin .eql (.tmp 26) (.c (.int .i64 14)))), 0, []⟩,
⟨(some 187), none, (.p (.mv (.tmp 188))), 0, []⟩])
(.cond (.tmp 187)
(.seq
(.ops [⟨(some 189), none, (.p (.mv (.tmp 0))), 0, []⟩,
⟨(some 190), none, (.p (.fieldAt 0 (.tmp 4))), 0, []⟩,
⟨(some 191), none, (.r (.load 1 false (.tmp 190))), 0, []⟩,
⟨(some 192), none, (.p (.fieldAt 1 (.tmp 5))), 0, []⟩,
⟨(some 193), none, (.r (.load 1 false (.tmp 192))), 0, []⟩,
⟨(some 194), none, (.p (.fieldAt 2 (.tmp 5))), 0, []⟩,
⟨(some 195), none, (.r (.load 1 false (.tmp 194))), 0, []⟩,
⟨(some 196), none, (.h (.call (.c (.fn 102 [] [])) [(.tmp 189), (.tmp 191), (.tmp 193), (.tmp 195), (.c (.bool true))])), 0, []⟩,
⟨(some 6), none, (.p (.mv (.c (.str [])))), 0, []⟩,
⟨(some 7), none, (.p (.mv (.c (.str [])))), 0, []⟩,
⟨(some 8), none, (.p (.mv (.tmp 196))), 0, []⟩])
.ret)
(.seq
(.seq
(.ops [⟨(some 198), none, (.p (.bin .eql (.tmp 26) (.c (.int .i64 16)))), 0, []⟩,
⟨(some 197), none, (.p (.mv (.tmp 198))), 0, []⟩])
(.cond (.tmp 197)
.skip
(.seq
(.ops [⟨(some 199), none, (.p (.bin .eql (.tmp 26) (.c (.int .i64 17)))), 0, []⟩,
⟨(some 197), none, (.p (.mv (.tmp 199))), 0, []⟩])
(.cond (.tmp 197)
.skip
(.ops [⟨(some 200), none, (.p (.bin .eql (.tmp 26) (.c (.int .i64 18)))), 0, []⟩,
⟨(some 197), none, (.p (.mv (.tmp 200))), 0, []⟩])))))
(.cond (.tmp 197)
(.seq
(.ops [⟨(some 6), none, (.p (.mv (.c (.str [118])))), 0, []⟩,
⟨(some 7), none, (.p (.mv (.c (.str [])))), 0, []⟩,
⟨(some 8), none, (.p (.mv (.c (.bool true)))), 0, []⟩])
.ret)
(.seq
(.ops [⟨(some 202), none, (.p (.bin .eql (.tmp 26) (.c (.int .i64 20)))), 0, []⟩,
⟨(some 201), none, (.p (.mv (.tmp 202))), 0, []⟩])
(.cond (.tmp 201)
(.seq
(.ops [⟨(some 6), none, (.p (.mv (.c (.str [118])))), 0, []⟩,
⟨(some 7), none, (.p (.mv (.c (.str [118, 118])))), 0, []⟩,
⟨(some 8), none, (.p (.mv (.c (.bool true)))), 0, []⟩])
.ret)
(.seq
(.ops [⟨(some 204), none, (.p (.bin .eql (.tmp 26) (.c (.int .i64 25)))), 0, []⟩,
⟨(some 203), none, (.p (.mv (.tmp 204))), 0, []⟩])
(.cond (.tmp 203)
(.seq
(.draw [⟨(some 205), none, (.p (.fieldAt 1 (.tmp 5))), 0, []⟩,
⟨(some 206), none, (.r (.load 1 false (.tmp 205))), 1, []⟩,
⟨(some 207), none, (.p (.bin .eql (.tmp 206) (.c (.int .i64 0)))), 2, []⟩,
⟨(some 208), none, (.p (.mv (.tmp 207))), 3, []⟩,
⟨(some 209), (some (208, false)), (.p (.fieldAt 1 (.tmp 5))), 4, []⟩,
⟨(some 210), (some (208, false)), (.r (.load 1 false (.tmp 209))), 5, []⟩,
⟨(some 211), (some (208, false)), (.p (.bin .eql (.tmp 210) (.c (.int .i64 1)))), 6, []⟩,
⟨(some 212), none, (.p (.pick (.tmp 208) (.c (.bool true)) (.tmp 211))), 7, []⟩,
⟨(some 6), none, (.p (.mv (.c (.str [118, 118, 118])))), 8, []⟩,
⟨(some 7), none, (.p (.mv (.c (.str [118])))), 9, []⟩,
⟨(some 8), none, (.p (.mv (.tmp 212))), 10, []⟩])
.ret)
(.seq
(.ops [⟨(some 214), none, (.p (.bin .eql (.tmp 26) (.c (.int .i64 23)))), 0, []⟩,
⟨(some 213), none, (.p (.mv (.tmp 214))), 0, []⟩])
(.cond (.tmp 213)
(.seq
(.draw [⟨(some 215), none, (.p (.fieldAt 0 (.tmp 4))), 0, []⟩,
⟨(some 216), none, (.r (.load 1 false (.tmp 215))), 1, []⟩,
⟨(some 217), none, (.p (.bin .gtr (.tmp 216) (.c (.int .i64 2)))), 2, []⟩,
⟨(some 6), none, (.p (.mv (.c (.str [118])))), 3, []⟩,
⟨(some 7), none, (.p (.mv (.c (.str [])))), 4, []⟩,
⟨(some 8), none, (.p (.mv (.tmp 217))), 5, []⟩])
.ret)
(.seq
(.seq
(.ops [⟨(some 219), none, (.p (.bin .eql (.tmp 26) (.c (.int .i64 15)))), 0, []⟩,
⟨(some 218), none, (.p (.mv (.tmp 219))), 0, []⟩])
(.cond (.tmp 218)
.skip
(.seq
(.ops [⟨(some 220), none, (.p (.bin .eql (.tmp 26) (.c (.int .i64 31)))), 0, []⟩,
⟨(some 218), none, (.p (.mv (.tmp 220))), 0, []⟩])
(.cond (.tmp 218)
.skip
(.seq
(.ops [⟨(some 221), none, (.p (.bin .eql (.tmp 26) (.c (.int .i64 30)))), 0, []⟩,
⟨(some 218), none, (.p (.mv (.tmp 221))), 0, []⟩])
(.cond (.tmp 218)
.skip
(.seq
(.ops [⟨(some 222), none, (.p (.bin .eql (.tmp 26) (.c (.int .i64 32)))), 0, []⟩,
⟨(some 218), none, (.p (.mv (.tmp 222))), 0, []⟩])
(.cond (.tmp 218)
.skip
(.ops [⟨(some 223), none, (.p (.bin .eql (.tmp 26) (.c (.int .i64 34)))), 0, []⟩,
⟨(some 218), none, (.p (.mv (.tmp 223))), 0, []⟩])))))))))
(.cond (.tmp 218)
(.seq
(.ops [⟨(some 6), none, (.p (.mv (.c (.str [])))), 0, []⟩,
⟨(some 7), none, (.p (.mv (.c (.str [])))), 0, []⟩,
⟨(some 8), none, (.p (.mv (.c (.bool true)))), 0, []⟩])
.ret)
(.seq
(.ops [⟨(some 225), none, (.p (.bin .eql (.tmp 26) (.c (.int .i64 29)))), 0, []⟩,
⟨(some 224), none, (.p (.mv (.tmp 225))), 0, []⟩])
(.cond (.tmp 224)
(.seq
(.ops [⟨(some 226), none, (.p (.mv (.tmp 0))), 0, []⟩,
⟨(some 227), none, (.p (.fieldAt 0 (.tmp 4))), 0, []⟩,
⟨(some 228), none, (.r (.load 1 false (.tmp 227))), 0, []⟩,
⟨(some 229), none, (.p (.fieldAt 1 (.tmp 5))), 0, []⟩,
⟨(some 230), none, (.r (.load 1 false (.tmp 229))), 0, []⟩,
⟨(some 231), none, (.p (.fieldAt 2 (.tmp 5))), 0, []⟩,
⟨(some 232), none, (.r (.load 1 false (.tmp 231))), 0, []⟩,
⟨(some 233), none, (.h (.call (.c (.fn 102 [] [])) [(.tmp 226), (.tmp 228), (.tmp 230), (.tmp 232), (.c (.bool true))])), 0, []⟩,
⟨(some 6), none, (.p (.mv (.c (.str [])))), 0, []⟩,
⟨(some 7), none, (.p (.mv (.c (.str [])))), 0, []⟩,
⟨(some 8), none, (.p (.mv (.tmp 233))), 0, []⟩])
.ret)
.skip))))))))))))))))))))))))))))))))))))))))))))
(.seq
(.ops [⟨(some 234), none, (.p (.mv (.tmp 0))), 0, []⟩,
⟨(some 235), none, (.r (.load 3 true (.tmp 5))), 0, []⟩,
⟨(some 236), none, (.h (.call (.c (.fn 103 [] [])) [(.tmp 234), (.tmp 235)])), 0, []⟩,
⟨(some 237), none, (.p (.ext (.tmp 236) 0)), 0, []⟩,
⟨(some 238), none, (.p (.ext (.tmp 236) 1)), 0, []⟩,
⟨(some 239), none, (.p (.ext (.tmp 236) 2)), 0, []⟩,
⟨(some 6), none, (.p (.mv (.tmp 237))), 0, []⟩,
⟨(some 7), none, (.p (.mv (.tmp 238))), 0, []⟩,
⟨(some 8), none, (.p (.mv (.tmp 239))), 0, []⟩])
.ret)))))))⟩
theorem c75 : Mir.compF Tryz.prog Tryz.f75 = some g75 := by kernel_rfl
/-- (*scribe/lex.lexer).while -/
def g77 : Mir.Fn := ⟨34, [],
(.block 0 (.loop (.seq
(.seq
(.draw [⟨(some 4), none, (.p (.mv (.tmp 0))), 0, []⟩,
⟨(some 5), none, (.p (.nilchk (.tmp 4))), 1, []⟩,
⟨(some 6), none, (.p (.fieldAt 1 (.tmp 5))), 2, []⟩,
⟨(some 7), none, (.r (.load 1 false (.tmp 6))), 3, []⟩,
⟨(some 8), none, (.p (.mv (.tmp 0))), 4, []⟩,
⟨(some 9), none, (.p (.nilchk (.tmp 8))), 5, []⟩,
⟨(some 10), none, (.p (.fieldAt 0 (.tmp 9))), 6, []⟩,
⟨(some 11), none, (.r (.load 1 false (.tmp 10))), 7, []⟩,
⟨(some 12), none, (.p (.lenStr (.tmp 11))), 8, []⟩,
⟨(some 13), none, (.p (.bin .lss (.tmp 7) (.tmp 12))), 9, []⟩,
⟨(some 14), none, (.p (.mv (.tmp 13))), 10, []⟩,
⟨(some 15), (some (14, true)), (.p (.mv (.tmp 1))), 11, []⟩,
⟨(some 16), (some (14, true)), (.p (.mv (.tmp 0))), 12, []⟩,
⟨(some 17), (some (14, true)), (.p (.nilchk (.tmp 16))), 13, []⟩,
⟨(some 18), (some (14, true)), (.p (.fieldAt 0 (.tmp 17))), 14, []⟩,
⟨(some 19), (some (14, true)), (.r (.load 1 false (.tmp 18))), 15, []⟩,
⟨(some 20), (some (14, true)), (.p (.mv (.tmp 0))), 16, []⟩,
⟨(some 21), (some (14, true)), (.p (.nilchk (.tmp 20))), 17, []⟩,
⟨(some 22), (some (14, true)), (.p (.fieldAt 1 (.tmp 21))), 18, []⟩,
⟨(some 23), (some (14, true)), (.r (.load 1 false (.tmp 22))), 19, []⟩,
⟨(some 24), (some (14, true)), (.p (.idxStr (.tmp 19) (.tmp 23))), 20, []⟩,
⟨(some 25), (some (14, true)), (.h (.call (.tmp 15) [(.tmp 24)])), 21, []⟩,
⟨(some 26), none, (.p (.pick (.tmp 14) (.tmp 25) (.c (.bool false)))), 22, []⟩])
(.cond (.tmp 26)
.skip
(.exit 0)))
(.block 1 (.ops [⟨(some 27), none, (.p (.mv (.tmp 0))), 0, []⟩,
⟨(some 28), none, (.p (.nilchk (.tmp 27))), 0, []⟩,
⟨(some 29), none, (.p (.fieldAt 1 (.tmp 28))), 0, []⟩,
⟨(some 30), none, (.r (.load 1 false (.tmp 29))), 0, []⟩,
⟨(some 31), none, (.p (.bin .add (.tmp 30) (.c (.int .i64 1)))), 0, []⟩,
⟨(some 32), none, (.p (.nilchk (.tmp 27))), 0, []⟩,
⟨(some 33), none, (.p (.fieldAt 1 (.tmp 32))), 0, []⟩,
⟨none, none, (.h (.store 1 (.tmp 33) (.tmp 31))), 0, []⟩])))))⟩
theorem c77 : Mir.compF Tryz.prog Tryz.f77 = some g77 := by kernel_rfl
/-- (*scribe/lex.lexer).next$1 -/
def g78 : Mir.Fn := ⟨5, [(.tmp 2)],
(.seq
(.ops [⟨(some 2), none, (.p (.mv (.c (.bool false)))), 0, []⟩])
(.seq
(.ops [⟨(some 3), none, (.p (.mv (.tmp 0))), 0, []⟩,
⟨(some 4), none, (.p (.bin .neq (.tmp 3) (.c (.int .u8 10)))), 0, []⟩,
⟨(some 2), none, (.p (.mv (.tmp 4))), 0, []⟩])
.ret))⟩
theorem c78 : Mir.compF Tryz.prog Tryz.f78 = some g78 := by kernel_rfl
/-- (*scribe/lex.lexer).peek -/
def g79 : Mir.Fn := ⟨28, [(.tmp 4)],
(.seq
(.ops [⟨(some 4), none, (.p (.mv (.c (.int .u8 0)))), 0, []⟩])
(.seq
(.seq
(.draw [⟨(some 5), none, (.p (.mv (.tmp 0))), 0, []⟩,
⟨(some 6), none, (.p (.nilchk (.tmp 5))), 1, []⟩,
⟨(some 7), none, (.p (.fieldAt 1 (.tmp 6))), 2, []⟩,
⟨(some 8), none, (.r (.load 1 false (.tmp 7))), 3, []⟩,
⟨(some 9), none, (.p (.mv (.tmp 1))), 4, []⟩,
⟨(some 10), none, (.p (.bin .add (.tmp 8) (.tmp 9))), 5, []⟩,
⟨(some 11), none, (.p (.mv (.tmp 0))), 6, []⟩,
⟨(some 12), none, (.p (.nilchk (.tmp 11))), 7, []⟩,
⟨(some 13), none, (.p (.fieldAt 0 (.tmp 12))), 8, []⟩,
⟨(some 14), none, (.r (.load 1 false (.tmp 13))), 9, []⟩,
⟨(some 15), none, (.p (.lenStr (.tmp 14))), 10, []⟩,
⟨(some 16), none, (.p (.bin .geq (.tmp 10) (.tmp 15))), 11, []⟩])
(.cond (.tmp 16)
(.seq
(.ops [⟨(some 4), none, (.p (.mv (.c (.int .u8 0)))), 0, []⟩])
.ret)
.skip))
(.seq
(.draw [⟨(some 17), none, (.p (.mv (.tmp 0))), 0, []⟩,
⟨(some 18), none, (.p (.nilchk (.tmp 17))), 1, []⟩,
⟨(some 19), none, (.p (.fieldAt 0 (.tmp 18))), 2, []⟩,
⟨(some 20), none, (.r (.load 1 false (.tmp 19))), 3, []⟩,
⟨(some 21), none, (.p (.mv (.tmp 0))), 4, []⟩,
⟨(some 22), none, (.p (.nilchk (.tmp 21))), 5, []⟩,
⟨(some 23), none, (.p (.fieldAt 1 (.tmp 22))), 6, []⟩,
⟨(some 24), none, (.r (.load 1 false (.tmp 23))), 7, []⟩,
⟨(some 25), none, (.p (.mv (.tmp 1))), 8, []⟩,
⟨(some 26), none, (.p (.bin .add (.tmp 24) (.tmp 25))), 9, []⟩,
⟨(some 27), none, (.p (.idxStr (.tmp 20) (.tmp 26))), 10, []⟩,
⟨(some 4), none, (.p (.mv (.tmp 27))), 11, []⟩])
.ret)))⟩
theorem c79 : Mir.compF Tryz.prog Tryz.f79 = some g79 := by kernel_rfl
/-- scribe/lex.digit -/
def g80 : Mir.Fn := ⟨9, [(.tmp 2)],
(.seq
(.ops [⟨(some 2), none, (.p (.mv (.c (.bool false)))), 0, []⟩])
(.seq
(.ops [⟨(some 3), none, (.p (.mv (.tmp 0))), 0, []⟩,
⟨(some 4), none, (.p (.bin .geq (.tmp 3) (.c (.int .u8 48)))), 0, []⟩,
⟨(some 5), none, (.p (.mv (.tmp 4))), 0, []⟩,
⟨(some 6), (some (5, true)), (.p (.mv (.tmp 0))), 0, []⟩,
⟨(some 7), (some (5, true)), (.p (.bin .leq (.tmp 6) (.c (.int .u8 57)))), 0, []⟩,
⟨(some 8), none, (.p (.pick (.tmp 5) (.tmp 7) (.c (.bool false)))), 0, []⟩,
⟨(some 2), none, (.p (.mv (.tmp 8))), 0, []⟩])
.ret))⟩
theorem c80 : Mir.compF Tryz.prog Tryz.f80 = some g80 := by kernel_rfl
/-- (*scribe/lex.lexer).number -/
def g81 : Mir.Fn := ⟨34, [],
(.seq
(.ops [⟨(some 3), none, (.p (.mv (.tmp 0))), 0, []⟩,
⟨(some 4), none, (.p (.nilchk (.tmp 3))), 0, []⟩,
⟨(some 5), none, (.p (.fieldAt 1 (.tmp 4))), 0, []⟩,
⟨(some 6), none, (.r (.load 1 false (.tmp 5))), 0, []⟩,
⟨(some 2), none, (.p (.mv (.tmp 6))), 0, []⟩])
(.seq
(.ops [⟨(some 7), none, (.p (.mv (.tmp 0))), 0, []⟩,
⟨(some 8), none, (.h (.call (.c (.fn 77 [] [])) [(.tmp 7), (.c (.fn 80 [] []))])), 0, []⟩])
(.seq
(.seq
(.ops [⟨(some 9), none, (.p (.mv (.tmp 0))), 0, []⟩,
⟨(some 10), none, (.h (.call (.c (.fn 79 [] [])) [(.tmp 9), (.c (.int .i64 0))])), 0, []⟩,
⟨(some 11), none, (.p (.bin .eql (.tmp 10) (.c (.int .u8 46)))), 0, []⟩])
(.cond (.tmp 11)
(.seq
(.ops [⟨(some 12), none, (.p (.mv (.tmp 0))), 0, []⟩,
⟨(some 13), none, (.p (.nilchk (.tmp 12))), 0, []⟩,
⟨(some 14), none, (.p (.fieldAt 1 (.tmp 13))), 0, []⟩,
⟨(some 15), none, (.r (.load 1 false (.tmp 14))), 0, []⟩,
⟨(some 16), none, (.p (.bin .add (.tmp 15) (.c (.int .i64 1)))), 0, []⟩,
⟨(some 17), none, (.p (.nilchk (.tmp 12))), 0, []⟩,
⟨(some 18), none, (.p (.fieldAt 1 (.tmp 17))), 0, []⟩,
⟨none, none, (.h (.store 1 (.tmp 18) (.tmp 16))), 0, []⟩])
(.ops [⟨(some 19), none, (.p (.mv (.tmp 0))), 0, []⟩,
⟨(some 20), none, (.h (.call (.c (.fn 77 [] [])) [(.tmp 19), (.c (.fn 80 [] []))])), 0, []⟩]))
.skip))
(.draw [⟨(some 21), none, (.p (.mv (.tmp 0))), 0, []⟩,
⟨(some 22), none, (.p (.mv (.tmp 0))), 1, []⟩,
⟨(some 23), none, (.p (.nilchk (.tmp 22))), 2, []⟩,
⟨(some 24), none, (.p (.fieldAt 0 (.tmp 23))), 3, []⟩,
⟨(some 25), none, (.r (.load 1 false (.tmp 24))), 4, []⟩,
⟨(some 26), none, (.p (.mv (.tmp 2))), 5, []⟩,
⟨(some 27), none, (.p (.mv (.tmp 0))), 6, []⟩,
⟨(some 28), none, (.p (.nilchk (.tmp 27))), 7, []⟩,
⟨(some 29), none, (.p (.fieldAt 1 (.tmp 28))), 8, []⟩,
⟨(some 30), none, (.r (.load 1 false (.tmp 29))), 9, []⟩,
⟨(some 31), none, (.p (.subStr (.tmp 25) (some (.tmp 26)) (some (.tmp 30)))), 10, []⟩,
⟨(some 32), none, (.p (.mv (.tmp 2))), 11, []⟩,
⟨(some 33), none, (.h (.call (.c (.fn 49 [] [])) [(.tmp 21), (.c (.int .i64 2)), (.tmp 31), (.tmp 32)])), 12, []⟩]))))⟩
theorem c81 : Mir.compF Tryz.prog Tryz.f81 = some g81 := by kernel_rfl
/-- scribe/lex.letter -/
def g82 : Mir.Fn := ⟨21, [(.tmp 2)],
(.seq
(.ops [⟨(some 2), none, (.p (.mv (.c (.bool false)))), 0, []⟩])
(.seq
(.ops [⟨(some 3), none, (.p (.mv (.tmp 0))), 0, []⟩,
⟨(some 4), none, (.p (.bin .geq (.tmp 3) (.c (.int .u8 97)))), 0, []⟩,
⟨(some 5), none, (.p (.mv (.tmp 4))), 0, []⟩,
⟨(some 6), (some (5, true)), (.p (.mv (.tmp 0))), 0, []⟩,
⟨(some 7), (some (5, true)), (.p (.bin .leq (.tmp 6) (.c (.int .u8 122)))), 0, []⟩,
⟨(some 8), none, (.p (.pick (.tmp 5) (.tmp 7) (.c (.bool false)))), 0, []⟩,
⟨(some 9), none, (.p (.mv (.tmp 8))), 0, []⟩,
⟨(some 10), (some (9, false)), (.p (.mv (.tmp 0))), 0, []⟩,
⟨(some 11), (some (9, false)), (.p (.bin .geq (.tmp 10) (.c (.int .u8 65)))), 0, []⟩,
⟨(some 12), (some (9, false)), (.p (.mv (.tmp 11))), 0, []⟩,
⟨(some 13), (some (12, true)), (.p (.mv (.tmp 0))), 0, []⟩,
⟨(some 14), (some (12, true)), (.p (.bin .leq (.tmp 13) (.c (.int .u8 90)))), 0, []⟩,
⟨(some 15), (some (9, false)), (.p (.pick (.tmp 12) (.tmp 14) (.c (.bool false)))), 0, []⟩,
⟨(some 16), none, (.p (.pick (.tmp 9) (.c (.bool true)) (.tmp 15))), 0, []⟩,
⟨(some 17), none, (.p (.mv (.tmp 16))), 0, []⟩,
⟨(some 18), (some (17, false)), (.p (.mv (.tmp 0))), 0, []⟩,
⟨(some 19), (some (17, false)), (.p (.bin .eql (.tmp 18) (.c (.int .u8 95)))), 0, []⟩,
⟨(some 20), none, (.p (.pick (.tmp 17) (.c (.bool true)) (.tmp 19))), 0, []⟩,
⟨(some 2), none, (.p (.mv (.tmp 20))), 0, []⟩])
.ret))⟩
theorem c82 : Mir.compF Tryz.prog Tryz.f82 = some g82 := by kernel_rfl
/-- (*scribe/lex.lexer).word -/
def g83 : Mir.Fn := ⟨56, [],
(.seq
(.ops [⟨(some 4), none, (.p (.mv (.tmp 0))), 0, []⟩,
⟨(some 5), none, (.p (.nilchk (.tmp 4))), 0, []⟩,
⟨(some 6), none, (.p (.fieldAt 1 (.tmp 5))), 0, []⟩,
⟨(some 7), none, (.r (.load 1 false (.tmp 6))), 0, []⟩,
⟨(some 2), none, (.p (.mv (.tmp 7))), 0, []⟩])
(.seq
(.ops [⟨(some 8), none, (.p (.mv (.tmp 0))), 0, []⟩,
⟨(some 9), none, (.h (.call (.c (.fn 77 [] [])) [(.tmp 8), (.c (.fn 109 [] []))])), 0, []⟩])
(.seq
(.draw [⟨(some 10), none, (.p (.mv (.tmp 0))), 0, []⟩,
⟨(some 11), none, (.p (.nilchk (.tmp 10))), 1, []⟩,
⟨(some 12), none, (.p (.fieldAt 0 (.tmp 11))), 2, []⟩,
⟨(some 13), none, (.r (.load 1 false (.tmp 12))), 3, []⟩,
⟨(some 14), none, (.p (.mv (.tmp 2))), 4, []⟩,
⟨(some 15), none, (.p (.mv (.tmp 0))), 5, []⟩,
⟨(some 16), none, (.p (.nilchk (.tmp 15))), 6, []⟩,
⟨(some 17), none, (.p (.fieldAt 1 (.tmp 16))), 7, []⟩,
⟨(some 18), none, (.r (.load 1 false (.tmp 17))), 8, []⟩,
⟨(some 19), none, (.p (.subStr (.tmp 13) (some (.tmp 14)) (some (.tmp 18)))), 9, []⟩,
⟨(some 3), none, (.p (.mv (.tmp 19))), 10, []⟩])
(.block 0 (.seq
(.ops [⟨(some 25), none, (.r (.load 1 false (.glob 6))), 0, []⟩,
⟨(some 26), none, (.p (.mv (.tmp 3))), 0, []⟩,
⟨(some 27), none, (.h (.call (.c (.fn 50 [] [])) [(.tmp 25), (.tmp 26)])), 0, []⟩,
⟨(some 24), none, (.p (.mv (.tmp 27))), 0, []⟩])
(.cond (.tmp 24)
(.ops [⟨(some 28), none, (.p (.mv (.tmp 0))), 0, []⟩,
⟨(some 29), none, (.p (.mv (.tmp 3))), 0, []⟩,
⟨(some 30), none, (.p (.mv (.tmp 2))), 0, []⟩,
⟨(some 31), none, (.h (.call (.c (.fn 49 [] [])) [(.tmp 28), (.c (.int .i64 7)), (.tmp 29), (.tmp 30)])), 0, []⟩])
(.seq
(.ops [⟨(some 33), none, (.r (.load 1 false (.glob 7))), 0, []⟩,
⟨(some 34), none, (.p (.mv (.tmp 3))), 0, []⟩,
⟨(some 35), none, (.h (.call (.c (.fn 50 [] [])) [(.tmp 33), (.tmp 34)])), 0, []⟩,
⟨(some 32), none, (.p (.mv (.tmp 35))), 0, []⟩])
(.cond (.tmp 32)
(.ops [⟨(some 36), none, (.p (.mv (.tmp 0))), 0, []⟩,
⟨(some 37), none, (.p (.mv (.tmp 3))), 0, []⟩,
⟨(some 38), none, (.p (.mv (.tmp 2))), 0, []⟩,
⟨(some 39), none, (.h (.call (.c (.fn 49 [] [])) [(.tmp 36), (.c (.int .i64 9)), (.tmp 37), (.tmp 38)])), 0, []⟩])
(.seq
(.ops [⟨(some 41), none, (.r (.load 1 false (.glob 8))), 0, []⟩,
⟨(some 42), none, (.p (.mv (.tmp 3))), 0, []⟩,
⟨(some 43), none, (.h (.call (.c (.fn 50 [] [])) [(.tmp 41), (.tmp 42)])), 0, []⟩,
⟨(some 40), none, (.p (.mv (.tmp 43))), 0, []⟩])
(.cond (.tmp 40)
(.ops [⟨(some 44), none, (.p (.mv (.tmp 0))), 0, []⟩,
⟨(some 45), none, (.p (.mv (.tmp 3))), 0, []⟩,
⟨(some 46), none, (.p (.mv (.tmp 2))), 0, []⟩,
⟨(some 47), none, (.h (.call (.c (.fn 49 [] [])) [(.tmp 44), (.c (.int .i64 10)), (.tmp 45), (.tmp 46)])), 0, []⟩])
(.seq
(.ops [⟨(some 49), none, (.p (.mv (.tmp 0))), 0, []⟩,
⟨(some 50), none, (.h (.call (.c (.fn 79 [] [])) [(.tmp 49), (.c (.int .i64 0))])), 0, []⟩,
⟨(some 51), none, (.p (.bin .eql (.tmp 50) (.c (.int .u8 40)))), 0, []⟩,
⟨(some 48), none, (.p (.mv (.tmp 51))), 0, []⟩])
(.cond (.tmp 48)
(.ops [⟨(some 52), none, (.p (.mv (.tmp 0))), 0, []⟩,
⟨(some 53), none, (.p (.mv (.tmp 3))), 0, []⟩,
⟨(some 54), none, (.p (.mv (.tmp 2))), 0, []⟩,
⟨(some 55), none, (.h (.call (.c (.fn 49 [] [])) [(.tmp 52), (.c (.int .i64 6)), (.tmp 53), (.tmp 54)])), 0, []⟩])
(.ops [⟨(some 20), none, (.p (.mv (.tmp 0))), 0, []⟩,
⟨(some 21), none, (.p (.mv (.tmp 3))), 0, []⟩,
⟨(some 22), none, (.p (.mv (.tmp 2))), 0, []⟩,
⟨(some 23), none, (.h (.call (.c (.fn 49 [] [])) [(.tmp 20), (.c (.int .i64 5)), (.tmp 21), (.tmp 22)])), 0, []⟩])))))))))))))⟩
theorem c83 : Mir.compF Tryz.prog Tryz.f83 = some g83 := by kernel_rfl
/-- (*scribe/lex.lexer).quoted -/
def g84 : Mir.Fn := ⟨103, [(.tmp 8)],
(.seq
(.ops [⟨(some 8), none, (.p (.mv (.c (.int .i64 0)))), 0, []⟩])
(.seq
(.ops [⟨(some 14), none, (.p (.mv (.tmp 0))), 0, []⟩,
⟨(some 15), none, (.p (.nilchk (.tmp 14))), 0, []⟩,
⟨(some 16), none, (.p (.fieldAt 1 (.tmp 15))), 0, []⟩,
⟨(some 17), none, (.r (.load 1 false (.tmp 16))), 0, []⟩,
⟨(some 9), none, (.p (.mv (.tmp 17))), 0, []⟩])
(.seq
(.ops [⟨(some 10), none, (.a (.allocW [.nilptr, .nilsl])), 0, []⟩])
(.seq
(.ops [⟨(some 18), none, (.p (.mv (.tmp 0))), 0, []⟩,
⟨(some 19), none, (.p (.nilchk (.tmp 18))), 0, []⟩,
⟨(some 20), none, (.p (.fieldAt 1 (.tmp 19))), 0, []⟩,
⟨(some 21), none, (.r (.load 1 false (.tmp 20))), 0, []⟩,
⟨(some 22), none, (.p (.bin .add (.tmp 21) (.c (.int .i64 1)))), 0, []⟩,
⟨(some 23), none, (.p (.nilchk (.tmp 18))), 0, []⟩,
⟨(some 24), none, (.p (.fieldAt 1 (.tmp 23))), 0, []⟩,
⟨none, none, (.h (.store 1 (.tmp 24) (.tmp 22))), 0, []⟩])
(.block 0 (.loop (.seq
(.block 1 (.seq
(.ops [⟨(some 32), none, (.p (.mv (.tmp 0))), 0, []⟩,
⟨(some 33), none, (.h (.call (.c (.fn 79 [] [])) [(.tmp 32), (.c (.int .i64 0))])), 0, []⟩,
⟨(some 11), none, (.p (.mv (.tmp 33))), 0, []⟩])
(.block 2 (.seq
(.seq
(.draw [⟨(some 37), none, (.p (.mv (.tmp 0))), 0, []⟩,
⟨(some 38), none, (.p (.nilchk (.tmp 37))), 1, []⟩,
⟨(some 39), none, (.p (.fieldAt 1 (.tmp 38))), 2, []⟩,
⟨(some 40), none, (.r (.load 1 false (.tmp 39))), 3, []⟩,
⟨(some 41), none, (.p (.mv (.tmp 0))), 4, []⟩,
⟨(some 42), none, (.p (.nilchk (.tmp 41))), 5, []⟩,
⟨(some 43), none, (.p (.fieldAt 0 (.tmp 42))), 6, []⟩,
⟨(some 44), none, (.r (.load 1 false (.tmp 43))), 7, []⟩,
⟨(some 45), none, (.p (.lenStr (.tmp 44))), 8, []⟩,
⟨(some 46), none, (.p (.bin .geq (.tmp 40) (.tmp 45))), 9, []⟩,
⟨(some 36), none, (.p (.mv (.tmp 46))), 10, []⟩])
(.cond (.tmp 36)
.skip
(.ops [⟨(some 47), none, (.p (.mv (.tmp 11))), 0, []⟩,
⟨(some 48), none, (.p (.bin .eql (.tmp 47) (.c (.int .u8 10)))), 0, []⟩,
⟨(some 36), none, (.p (.mv (.tmp 48))), 0, []⟩])))
(.cond (.tmp 36)
(.seq
(.ops [⟨(some 49), none, (.p (.mv (.tmp 0))), 0, []⟩,
⟨(some 50), none, (.p (.mv (.tmp 9))), 0, []⟩,
⟨(some 51), none, (.p (.nilchk (.tmp 49))), 0, []⟩,
⟨(some 52), none, (.p (.fieldAt 1 (.tmp 51))), 0, []⟩,
⟨none, none, (.h (.store 1 (.tmp 52) (.tmp 50))), 0, []⟩])
(.seq
(.ops [⟨(some 8), none, (.p (.mv (.c (.int .i64 9)))), 0, []⟩])
.ret))
(.seq
(.ops [⟨(some 54), none, (.p (.mv (.tmp 11))), 0, []⟩,
⟨(some 55), none, (.p (.mv (.tmp 2))), 0, []⟩,
⟨(some 56), none, (.p (.bin .eql (.tmp 54) (.tmp 55))), 0, []⟩,
⟨(some 53), none, (.p (.mv (.tmp 56))), 0, []⟩])
(.cond (.tmp 53)
(.seq
(.ops [⟨(some 57), none, (.p (.mv (.tmp 0))), 0, []⟩,
⟨(some 58), none, (.p (.nilchk (.tmp 57))), 0, []⟩,
⟨(some 59), none, (.p (.fieldAt 1 (.tmp 58))), 0, []⟩,
⟨(some 60), none, (.r (.load 1 false (.tmp 59))), 0, []⟩,
⟨(some 61), none, (.p (.bin .add (.tmp 60) (.c (.int .i64 1)))), 0, []⟩,
⟨(some 62), none, (.p (.nilchk (.tmp 57))), 0, []⟩,
⟨(some 63), none, (.p (.fieldAt 1 (.tmp 62))), 0, []⟩,
⟨none, none, (.h (.store 1 (.tmp 63) (.tmp 61))), 0, []⟩])
(.seq
(.ops [⟨(some 64), none, (.p (.mv (.tmp 0))), 0, []⟩,
⟨(some 65), none, (.p (.mv (.tmp 1))), 0, []⟩,
⟨(some 66), none, (.h (.call (.c (.fn 110 [] [])) [(.tmp 10)])), 0, []⟩,
⟨(some 67), none, (.p (.mv (.tmp 9))), 0, []⟩,
⟨(some 68), none, (.h (.call (.c (.fn 49 [] [])) [(.tmp 64), (.tmp 65), (.tmp 66), (.tmp 67)])), 0, []⟩])
(.seq
(.ops [⟨(some 8), none, (.p (.mv (.c (.int .i64 0)))), 0, []⟩])
.ret)))
(.seq
(.ops [⟨(some 70), none, (.p (.mv (.tmp 11))), 0, []⟩,
⟨(some 71), none, (.p (.bin .eql (.tmp 70) (.c (.int .u8 92)))), 0, []⟩,
⟨(some 69), none, (.p (.mv (.tmp 71))), 0, []⟩])
(.cond (.tmp 69)
(.seq
(.ops [⟨(some 73), none, (.p (.mv (.tmp 3))), 0, []⟩,
⟨(some 74), none, (.p (.mv (.tmp 0))), 0, []⟩,
⟨(some 75), none, (.h (.call (.c (.fn 79 [] [])) [(.tmp 74), (.c (.int .i64 1))])), 0, []⟩,
⟨(some 76), none, (.h (.call (.tmp 73) [(.tmp 75)])), 0, []⟩,
⟨(some 72), none, (.p (.mv (.tmp 76))), 0, []⟩,
⟨(some 77), none, (.p (.ext (.tmp 72) 0)), 0, []⟩,
⟨(some 78), none, (.p (.ext (.tmp 72) 1)), 0, []⟩,
⟨(some 12), none, (.p (.mv (.tmp 77))), 0, []⟩,
⟨(some 13), none, (.p (.mv (.tmp 78))), 0, []⟩])
(.seq
(.seq
(.draw [⟨(some 79), none, (.p (.mv (.tmp 13))), 0, []⟩,
⟨(some 80), none, (.p (.un .not (.tmp 79))), 1, []⟩,
⟨(some 81), none, (.p (.mv (.tmp 80))), 2, []⟩,
⟨(some 82), (some (81, false)), (.p (.mv (.tmp 0))), 3, []⟩,
⟨(some 83), (some (81, false)), (.p (.nilchk (.tmp 82))), 4, []⟩,
⟨(some 84), (some (81, false)), (.p (.fieldAt 1 (.tmp 83))), 5, []⟩,
⟨(some 85), (some (81, false)), (.r (.load 1 false (.tmp 84))), 6, []⟩,
⟨(some 86), (some (81, false)), (.p (.bin .add (.tmp 85) (.c (.int .i64 1)))), 7, []⟩,
⟨(some 87), (some (81, false)), (.p (.mv (.tmp 0))), 8, []⟩,
⟨(some 88), (some (81, false)), (.p (.nilchk (.tmp 87))), 9, []⟩,
⟨(some 89), (some (81, false)), (.p (.fieldAt 0 (.tmp 88))), 10, []⟩,
⟨(some 90), (some (81, false)), (.r (.load 1 false (.tmp 89))), 11, []⟩,
⟨(some 91), (some (81, false)), (.p (.lenStr (.tmp 90))), 12, []⟩,
⟨(some 92), (some (81, false)), (.p (.bin .geq (.tmp 86) (.tmp 91))), 13, []⟩,
⟨(some 93), none, (.p (.pick (.tmp 81) (.c (.bool true)) (.tmp 92))), 14, []⟩])
(.cond (.tmp 93)
(.seq
(.ops [⟨(some 8), none, (.p (.mv (.c (.int .i64 9)))), 0, []⟩])
.ret)
.skip))
(.seq
(.ops [⟨(some 94), none, (.p (.mv (.tmp 0))), 0, []⟩,
⟨(some 95), none, (.p (.nilchk (.tmp 94))), 0, []⟩,
⟨(some 96), none, (.p (.fieldAt 1 (.tmp 95))), 0, []⟩,
⟨(some 97), none, (.r (.load 1 false (.tmp 96))), 0, []⟩,
⟨(some 98), none, (.p (.bin .add (.tmp 97) (.c (.int .i64 1)))), 0, []⟩,
⟨(some 99), none, (.p (.nilchk (.tmp 94))), 0, []⟩,
⟨(some 100), none, (.p (.fieldAt 1 (.tmp 99))), 0, []⟩,
⟨none, none, (.h (.store 1 (.tmp 100) (.tmp 98))), 0, []⟩])
(.ops [⟨(some 101), none, (.p (.mv (.tmp 12))), 0, []⟩,
⟨(some 102), none, (.h (.call (.c (.fn 111 [] [])) [(.tmp 10), (.tmp 101)])), 0, []⟩]))))
(.ops [⟨(some 34), none, (.p (.mv (.tmp 11))), 0, []⟩,
⟨(some 35), none, (.h (.call (.c (.fn 112 [] [])) [(.tmp 10), (.tmp 34)])), 0, []⟩]))))))))))
(.ops [⟨(some 25), none, (.p (.mv (.tmp 0))), 0, []⟩,
⟨(some 26), none, (.p (.nilchk (.tmp 25))), 0, []⟩,
⟨(some 27), none, (.p (.fieldAt 1 (.tmp 26))), 0, []⟩,
⟨(some 28), none, (.r (.load 1 false (.tmp 27))), 0, []⟩,
⟨(some 29), none, (.p (.bin .add (.tmp 28) (.c (.int .i64 1)))), 0, []⟩,
⟨(some 30), none, (.p (.nilchk (.tmp 25))), 0, []⟩,
⟨(some 31), none, (.p (.fieldAt 1 (.tmp 30))), 0, []⟩,
⟨none, none, (.h (.store 1 (.tmp 31) (.tmp 29))), 0, []⟩]))))))))⟩
theorem c84 : Mir.compF Tryz.prog Tryz.f84 = some g84 := by kernel_rfl
/-- scribe/lex.inString -/
def g85 : Mir.Fn := ⟨16, [(.tmp 2), (.tmp 3)],
(.seq
(.ops [⟨(some 2), none, (.p (.mv (.c (.str [])))), 0, []⟩,
⟨(some 3), none, (.p (.mv (.c (.bool false)))), 0, []⟩])
(.seq
(.seq
(.ops [⟨(some 4), none, (.p (.mv (.tmp 0))), 0, []⟩])
(.block 0 (.seq
(.ops [⟨(some 6), none, (.p (.bin .eql (.tmp 4) (.c (.int .u8 110)))), 0, []⟩,
⟨(some 5), none, (.p (.mv (.tmp 6))), 0, []⟩])
(.cond (.tmp 5)
(.seq
(.ops [⟨(some 2), none, (.p (.mv (.c (.str [10])))), 0, []⟩,
⟨(some 3), none, (.p (.mv (.c (.bool true)))), 0, []⟩])
.ret)
(.seq
(.ops [⟨(some 8), none, (.p (.bin .eql (.tmp 4) (.c (.int .u8 116)))), 0, []⟩,
⟨(some 7), none, (.p (.mv (.tmp 8))), 0, []⟩])
(.cond (.tmp 7)
(.seq
(.ops [⟨(some 2), none, (.p (.mv (.c (.str [9])))), 0, []⟩,
⟨(some 3), none, (.p (.mv (.c (.bool true)))), 0, []⟩])
.ret)
(.seq
(.seq
(.ops [⟨(some 10), none, (.p (.bin .eql (.tmp 4) (.c (.int .u8 34)))), 0, []⟩,
⟨(some 9), none, (.p (.mv (.tmp 10))), 0, []⟩])
(.cond (.tmp 9)
.skip
(.seq
(.ops [⟨(some 11), none, (.p (.bin .eql (.tmp 4) (.c (.int .u8 92)))), 0, []⟩,
⟨(some 9), none, (.p (.mv (.tmp 11))), 0, []⟩])
(.cond (.tmp 9)
.skip
(.ops [⟨(some 12), none, (.p (.bin .eql (.tmp 4) (.c (.int .u8 47)))), 0, []⟩,
⟨(some 9), none, (.p (.mv (.tmp 12))), 0, []⟩])))))
(.cond (.tmp 9)
(.seq
(.ops [⟨(some 13), none, (.p (.mv (.tmp 0))), 0, []⟩,
⟨(some 14), none, (.a (.mkSl [(.int .u8 0)] 1 1 [(0, (1, (.tmp 13)))])), 0, []⟩,
⟨(some 15), none, (.r (.toStr (.tmp 14))), 0, []⟩,
⟨(some 2), none, (.p (.mv (.tmp 15))), 0, []⟩,
⟨(some 3), none, (.p (.mv (.c (.bool true)))), 0, []⟩])
.ret)
.skip))))))))
(.seq
(.ops [⟨(some 2), none, (.p (.mv (.c (.str [])))), 0, []⟩,
⟨(some 3), none, (.p (.mv (.c (.bool false)))), 0, []⟩])
.ret)))⟩
theorem c85 : Mir.compF Tryz.prog Tryz.f85 = some g85 := by kernel_rfl
/-- (*scribe/lex.lexer).slash -/
def g86 : Mir.Fn := ⟨41, [(.tmp 2)],
(.seq
(.ops [⟨(some 2), none, (.p (.mv (.c (.bool false)))), 0, []⟩])
(.seq
(.seq
(.ops [⟨(some 4), none, (.p (.mv (.tmp 0))), 0, []⟩,
⟨(some 5), none, (.p (.nilchk (.tmp 4))), 0, []⟩,
⟨(some 6), none, (.p (.fieldAt 2 (.tmp 5))), 0, []⟩,
⟨(some 7), none, (.r (.load 1 false (.tmp 6))), 0, []⟩,
⟨(some 8), none, (.p (.lenSl (.tmp 7))), 0, []⟩,
⟨(some 9), none, (.p (.bin .eql (.tmp 8) (.c (.int .i64 0)))), 0, []⟩])
(.cond (.tmp 9)
(.seq
(.ops [⟨(some 2), none, (.p (.mv (.c (.bool true)))), 0, []⟩])
.ret)
.skip))
(.seq
(.draw [⟨(some 10), none, (.p (.mv (.tmp 0))), 0, []⟩,
⟨(some 11), none, (.p (.nilchk (.tmp 10))), 1, []⟩,
⟨(some 12), none, (.p (.fieldAt 2 (.tmp 11))), 2, []⟩,
⟨(some 13), none, (.r (.load 1 false (.tmp 12))), 3, []⟩,
⟨(some 14), none, (.p (.mv (.tmp 0))), 4, []⟩,
⟨(some 15), none, (.p (.nilchk (.tmp 14))), 5, []⟩,
⟨(some 16), none, (.p (.fieldAt 2 (.tmp 15))), 6, []⟩,
⟨(some 17), none, (.r (.load 1 false (.tmp 16))), 7, []⟩,
⟨(some 18), none, (.p (.lenSl (.tmp 17))), 8, []⟩,
⟨(some 19), none, (.p (.bin .sub (.tmp 18) (.c (.int .i64 1)))), 9, []⟩,
⟨(some 20), none, (.p (.idxSl 3 (.tmp 13) (.tmp 19))), 10, []⟩,
⟨(some 21), none, (.r (.load 3 true (.tmp 20))), 11, []⟩,
⟨(some 3), none, (.a (.alloc [(.int .i64 0), (.str []), (.int .i64 0)])), 12, []⟩,
⟨none, none, (.h (.store 3 (.tmp 3) (.tmp 21))), 13, []⟩])
(.seq
(.seq
(.ops [⟨(some 22), none, (.p (.fieldAt 0 (.tmp 3))), 0, []⟩,
⟨(some 23), none, (.r (.load 1 false (.tmp 22))), 0, []⟩])
(.block 0 (.seq
(.seq
(.ops [⟨(some 25), none, (.p (.bin .eql (.tmp 23) (.c (.int .i64 2)))), 0, []⟩,
⟨(some 24), none, (.p (.mv (.tmp 25))), 0, []⟩])
(.cond (.tmp 24)
.skip
(.seq
(.ops [⟨(some 26), none, (.p (.bin .eql (.tmp 23) (.c (.int .i64 3)))), 0, []⟩,
⟨(some 24), none, (.p (.mv (.tmp 26))), 0, []⟩])
(.cond (.tmp 24)
.skip
(.seq
(.ops [⟨(some 27), none, (.p (.bin .eql (.tmp 23) (.c (.int .i64 4)))), 0, []⟩,
⟨(some 24), none, (.p (.mv (.tmp 27))), 0, []⟩])
(.cond (.tmp 24)
.skip
(.ops [⟨(some 28), none, (.p (.bin .eql (.tmp 23) (.c (.int .i64 5)))), 0, []⟩,
⟨(some 24), none, (.p (.mv (.tmp 28))), 0, []⟩])))))))
(.cond (.tmp 24)
(.seq
(.ops [⟨(some 2), none, (.p (.mv (.c (.bool false)))), 0, []⟩])
.ret)
(.seq
(.ops [⟨(some 30), none, (.p (.bin .eql (.tmp 23) (.c (.int .i64 9)))), 0, []⟩,
⟨(some 29), none, (.p (.mv (.tmp 30))), 0, []⟩])
(.cond (.tmp 29)
(.seq
(.ops [⟨(some 31), none, (.p (.fieldAt 1 (.tmp 3))), 0, []⟩,
⟨(some 32), none, (.r (.load 1 false (.tmp 31))), 0, []⟩,
⟨(some 33), none, (.p (.bin .neq (.tmp 32) (.c (.str [108, 101, 110, 103, 116, 104])))), 0, []⟩,
⟨(some 2), none, (.p (.mv (.tmp 33))), 0, []⟩])
.ret)
(.seq
(.ops [⟨(some 35), none, (.p (.bin .eql (.tmp 23) (.c (.int .i64 8)))), 0, []⟩,
⟨(some 34), none, (.p (.mv (.tmp 35))), 0, []⟩])
(.cond (.tmp 34)
(.seq
(.ops [⟨(some 36), none, (.a (.mkSl [(.str [])] 1 4 [(0, (1, (.c (.str [41])))), (1, (1, (.c (.str [93])))), (2, (1, (.c (.str [43, 43])))), (3, (1, (.c (.str [45, 45]))))])), 0, []⟩,
⟨(some 37), none, (.p (.fieldAt 1 (.tmp 3))), 0, []⟩,
⟨(some 38), none, (.r (.load 1 false (.tmp 37))), 0, []⟩,
⟨(some 39), none, (.h (.call (.c (.fn 50 [] [])) [(.tmp 36), (.tmp 38)])), 0, []⟩,
⟨(some 40), none, (.p (.un .not (.tmp 39))), 0, []⟩,
⟨(some 2), none, (.p (.mv (.tmp 40))), 0, []⟩])
.ret)
.skip))))))))
(.seq
(.ops [⟨(some 2), none, (.p (.mv (.c (.bool true)))), 0, []⟩])
.ret)))))⟩
theorem c86 : Mir.compF Tryz.prog Tryz.f86 = some g86 := by kernel_rfl
/-- scribe/lex.inRegex -/
def g87 : Mir.Fn := ⟨11, [(.tmp 2), (.tmp 3)],
(.seq
(.ops [⟨(some 2), none, (.p (.mv (.c (.str [])))), 0, []⟩,
⟨(some 3), none, (.p (.mv (.c (.bool false)))), 0, []⟩])
(.seq
(.seq
(.ops [⟨(some 4), none, (.p (.mv (.tmp 0))), 0, []⟩,
⟨(some 5), none, (.p (.bin .eql (.tmp 4) (.c (.int .u8 47)))), 0, []⟩])
(.cond (.tmp 5)
(.seq
(.ops [⟨(some 2), none, (.p (.mv (.c (.str [47])))), 0, []⟩,
⟨(some 3), none, (.p (.mv (.c (.bool true)))), 0, []⟩])
.ret)
.skip))
(.seq
(.ops [⟨(some 6), none, (.p (.mv (.tmp 0))), 0, []⟩,
⟨(some 7), none, (.a (.mkSl [(.int .u8 0)] 1 2 [(0, (1, (.c (.int .u8 92)))), (1, (1, (.tmp 6)))])), 0, []⟩,
⟨(some 8), none, (.r (.toStr (.tmp 7))), 0, []⟩,
⟨(some 9), none, (.p (.mv (.tmp 0))), 0, []⟩,
⟨(some 10), none, (.p (.bin .neq (.tmp 9) (.c (.int .u8 10)))), 0, []⟩,
⟨(some 2), none, (.p (.mv (.tmp 8))), 0, []⟩,
⟨(some 3), none, (.p (.mv (.tmp 10))), 0, []⟩])
.ret)))⟩
theorem c87 : Mir.compF Tryz.prog Tryz.f87 = some g87 := by kernel_rfl
/-- (*scribe/lex.lexer).sign -/
def g88 : Mir.Fn := ⟨73, [(.tmp 2)],
(.seq
(.ops [⟨(some 2), none, (.p (.mv (.c (.int .i64 0)))), 0, []⟩])
(.seq
(.draw [⟨(some 4), none, (.p (.mv (.tmp 0))), 0, []⟩,
⟨(some 5), none, (.p (.nilchk (.tmp 4))), 1, []⟩,
⟨(some 6), none, (.p (.fieldAt 0 (.tmp 5))), 2, []⟩,
⟨(some 7), none, (.r (.load 1 false (.tmp 6))), 3, []⟩,
⟨(some 8), none, (.p (.mv (.tmp 0))), 4, []⟩,
⟨(some 9), none, (.p (.nilchk (.tmp 8))), 5, []⟩,
⟨(some 10), none, (.p (.fieldAt 1 (.tmp 9))), 6, []⟩,
⟨(some 11), none, (.r (.load 1 false (.tmp 10))), 7, []⟩,
⟨(some 12), none, (.p (.mv (.tmp 0))), 8, []⟩,
⟨(some 13), none, (.p (.nilchk (.tmp 12))), 9, []⟩,
⟨(some 14), none, (.p (.fieldAt 1 (.tmp 13))), 10, []⟩,
⟨(some 15), none, (.r (.load 1 false (.tmp 14))), 11, []⟩,
⟨(some 16), none, (.p (.bin .add (.tmp 15) (.c (.int .i64 2)))), 12, []⟩,
⟨(some 17), none, (.p (.mv (.tmp 0))), 13, []⟩,
⟨(some 18), none, (.p (.nilchk (.tmp 17))), 14, []⟩,
⟨(some 19), none, (.p (.fieldAt 0 (.tmp 18))), 15, []⟩,
⟨(some 20), none, (.r (.load 1 false (.tmp 19))), 16, []⟩,
⟨(some 21), none, (.p (.lenStr (.tmp 20))), 17, []⟩,
⟨(some 22), none, (.p (.mnmx false (.tmp 16) [(.tmp 21)])), 18, []⟩,
⟨(some 23), none, (.p (.subStr (.tmp 7) (some (.tmp 11)) (some (.tmp 22)))), 19, []⟩,
⟨(some 3), none, (.p (.mv (.tmp 23))), 20, []⟩])
(.seq
(.seq
(.ops [⟨(some 24), none, (.p (.mv (.tmp 3))), 0, []⟩,
⟨(some 25), none, (.p (.lenStr (.tmp 24))), 0, []⟩,
⟨(some 26), none, (.p (.bin .eql (.tmp 25) (.c (.int .i64 2)))), 0, []⟩,
⟨(some 27), none, (.p (.mv (.tmp 26))), 0, []⟩,
⟨(some 28), (some (27, true)), (.p (.mv (.tmp 3))), 0, []⟩,
⟨(some 29), (some (27, true)), (.p (.bin .add (.c (.str [32])) (.tmp 28))), 0, []⟩,
⟨(some 30), (some (27, true)), (.p (.bin .add (.tmp 29) (.c (.str [32])))), 0, []⟩,
⟨(some 31), (some (27, true)), (.h (.call (.c (.fn 113 [] [])) [(.c (.str [32, 43, 61, 32, 45, 61, 32, 42, 61, 32, 47, 61, 32, 37, 61, 32, 61, 61, 32, 60, 61, 32, 62, 61, 32, 33, 61, 32, 43, 43, 32, 45, 45, 32, 38, 38, 32, 124, 124, 32, 62, 62, 32, 33, 126, 32])), (.tmp 30)])), 0, []⟩,
⟨(some 32), none, (.p (.pick (.tmp 27) (.tmp 31) (.c (.bool false)))), 0, []⟩])
(.cond (.tmp 32)
(.seq
(.ops [⟨(some 33), none, (.p (.mv (.tmp 0))), 0, []⟩,
⟨(some 34), none, (.p (.mv (.tmp 3))), 0, []⟩,
⟨(some 35), none, (.p (.mv (.tmp 0))), 0, []⟩,
⟨(some 36), none, (.p (.nilchk (.tmp 35))), 0, []⟩,
⟨(some 37), none, (.p (.fieldAt 1 (.tmp 36))), 0, []⟩,
⟨(some 38), none, (.r (.load 1 false (.tmp 37))), 0, []⟩,
⟨(some 39), none, (.h (.call (.c (.fn 49 [] [])) [(.tmp 33), (.c (.int .i64 8)), (.tmp 34), (.tmp 38)])), 0, []⟩])
(.seq
(.ops [⟨(some 40), none, (.p (.mv (.tmp 0))), 0, []⟩,
⟨(some 41), none, (.p (.nilchk (.tmp 40))), 0, []⟩,
⟨(some 42), none, (.p (.fieldAt 1 (.tmp 41))), 0, []⟩,
⟨(some 43), none, (.r (.load 1 false (.tmp 42))), 0, []⟩,
⟨(some 44), none, (.p (.bin .add (.tmp 43) (.c (.int .i64 2)))), 0, []⟩,
⟨(some 45), none, (.p (.nilchk (.tmp 40))), 0, []⟩,
⟨(some 46), none, (.p (.fieldAt 1 (.tmp 45))), 0, []⟩,
⟨none, none, (.h (.store 1 (.tmp 46) (.tmp 44))), 0, []⟩])
(.seq
(.ops [⟨(some 2), none, (.p (.mv (.c (.int .i64 0)))), 0, []⟩])
.ret)))
.skip))
(.seq
(.seq
(.draw [⟨(some 47), none, (.p (.mv (.tmp 0))), 0, []⟩,
⟨(some 48), none, (.p (.nilchk (.tmp 47))), 1, []⟩,
⟨(some 49), none, (.p (.fieldAt 0 (.tmp 48))), 2, []⟩,
⟨(some 50), none, (.r (.load 1 false (.tmp 49))), 3, []⟩,
⟨(some 51), none, (.p (.mv (.tmp 0))), 4, []⟩,
⟨(some 52), none, (.p (.nilchk (.tmp 51))), 5, []⟩,
⟨(some 53), none, (.p (.fieldAt 1 (.tmp 52))), 6, []⟩,
⟨(some 54), none, (.r (.load 1 false (.tmp 53))), 7, []⟩,
⟨(some 55), none, (.p (.idxStr (.tmp 50) (.tmp 54))), 8, []⟩,
⟨(some 56), none, (.h (.call (.c (.fn 114 [] [])) [(.c (.str [123, 125, 40, 41, 91, 93, 59, 44, 43, 45, 42, 47, 37, 33, 62, 60, 124, 63, 58, 126, 36, 61])), (.tmp 55)])), 9, []⟩,
⟨(some 57), none, (.p (.bin .lss (.tmp 56) (.c (.int .i64 0)))), 10, []⟩])
(.cond (.tmp 57)
(.seq
(.ops [⟨(some 2), none, (.p (.mv (.c (.int .i64 9)))), 0, []⟩])
.ret)
.skip))
(.seq
(.draw [⟨(some 58), none, (.p (.mv (.tmp 0))), 0, []⟩,
⟨(some 59), none, (.p (.mv (.tmp 3))), 1, []⟩,
⟨(some 60), none, (.p (.subStr (.tmp 59) none (some (.c (.int .i64 1))))), 2, []⟩,
⟨(some 61), none, (.p (.mv (.tmp 0))), 3, []⟩,
⟨(some 62), none, (.p (.nilchk (.tmp 61))), 4, []⟩,
⟨(some 63), none, (.p (.fieldAt 1 (.tmp 62))), 5, []⟩,
⟨(some 64), none, (.r (.load 1 false (.tmp 63))), 6, []⟩,
⟨(some 65), none, (.h (.call (.c (.fn 49 [] [])) [(.tmp 58), (.c (.int .i64 8)), (.tmp 60), (.tmp 64)])), 7, []⟩])
(.seq
(.ops [⟨(some 66), none, (.p (.mv (.tmp 0))), 0, []⟩,
⟨(some 67), none, (.p (.nilchk (.tmp 66))), 0, []⟩,
⟨(some 68), none, (.p (.fieldAt 1 (.tmp 67))), 0, []⟩,
⟨(some 69), none, (.r (.load 1 false (.tmp 68))), 0, []⟩,
⟨(some 70), none, (.p (.bin .add (.tmp 69) (.c (.int .i64 1)))), 0, []⟩,
⟨(some 71), none, (.p (.nilchk (.tmp 66))), 0, []⟩,
⟨(some 72), none, (.p (.fieldAt 1 (.tmp 71))), 0, []⟩,
⟨none, none, (.h (.store 1 (.tmp 72) (.tmp 70))), 0, []⟩])
(.seq
(.ops [⟨(some 2), none, (.p (.mv (.c (.int .i64 0)))), 0, []⟩])
.ret)))))))⟩
theorem c88 : Mir.compF Tryz.prog Tryz.f88 = some g88 := by kernel_rfl
/-- slices.Index[[]string,string] -/
def g89 : Mir.Fn := ⟨19, [(.tmp 4)],
(.seq
(.ops [⟨(some 4), none, (.p (.mv (.c (.int .i64 0)))), 0, []⟩])
(.seq
(.seq
(.ops [⟨(some 6), none, (.p (.mv (.tmp 0))), 0, []⟩,
⟨(some 7), none, (.p (.lenSl (.tmp 6))), 0, []⟩,
⟨(some 8), none, (.p (.mv (.c (.int .i64 0)))), 0, []⟩])
(.block 0 (.loop (.seq
(.ops [⟨(some 9), none, (.p (.bin .lss (.tmp 8) (.tmp 7))), 0, []⟩])
(.seq
(.cond (.tmp 9)
.skip
(.exit 0))
(.seq
(.block 1 (.seq
(.ops [⟨(some 10), none, (.p (.mv (.tmp 8))), 0, []⟩,
⟨(some 5), none, (.p (.mv (.tmp 10))), 0, []⟩])
(.seq
(.ops [⟨(some 11), none, (.p (.mv (.tmp 1))), 0, []⟩,
⟨(some 12), none, (.p (.mv (.tmp 0))), 0, []⟩,
⟨(some 13), none, (.p (.mv (.tmp 5))), 0, []⟩,
⟨(some 14), none, (.p (.idxSl 1 (.tmp 12) (.tmp 13))), 0, []⟩,
⟨(some 15), none, (.r (.load 1 false (.tmp 14))), 0, []⟩,
⟨(some 16), none, (.p (.bin .eql (.tmp 11) (.tmp 15))), 0, []⟩])
(.cond (.tmp 16)
(.seq
(.ops [⟨(some 17), none, (.p (.mv (.tmp 5))), 0, []⟩,
⟨(some 4), none, (.p (.mv (.tmp 17))), 0, []⟩])
.ret)
.skip))))
(.ops [⟨(some 18), none, (.p (.bin .add (.tmp 8) (.c (.int .i64 1)))), 0, []⟩,
⟨(some 8), none, (.p (.mv (.tmp 18))), 0, []⟩])))))))
(.seq
(.ops [⟨(some 4), none, (.p (.mv (.c (.int .i64 (-1))))), 0, []⟩])
.ret)))⟩
theorem c89 : Mir.compF Tryz.prog Tryz.f89 = some g89 := by kernel_rfl
/-- (*scribe/parse.parser).stmt -/
def g90 : Mir.Fn := ⟨43, [(.cell 2 4 true)],
(.seq
(.ops [⟨(some 2), none, (.a (.alloc [(.str []), (.str []), (.int .i64 0), .nilsl])), 0, []⟩])
(.seq
(.ops [⟨(some 4), none, (.p (.mv (.tmp 0))), 0, []⟩,
⟨(some 5), none, (.h (.call (.c (.fn 92 [] [])) [(.tmp 4)])), 0, []⟩])
(.seq
(.ops [⟨(some 6), none, (.p (.mv (.tmp 0))), 0, []⟩,
⟨none, none, (.h (.dfr (.c (.fn 93 [] [])) [(.tmp 6)])), 0, []⟩])
(.seq
(.block 0 (.seq
(.ops [⟨(some 8), none, (.p (.mv (.tmp 0))), 0, []⟩,
⟨(some 9), none, (.a (.mkSl [(.str [])] 1 1 [(0, (1, (.c (.str [123]))))])), 0, []⟩,
⟨(some 10), none, (.h (.call (.c (.fn 29 [] [])) [(.tmp 8), (.tmp 9)])), 0, []⟩,
⟨(some 7), none, (.p (.mv (.tmp 10))), 0, []⟩])
(.cond (.tmp 7)
(.seq
(.ops [⟨(some 11), none, (.p (.mv (.tmp 0))), 0, []⟩,
⟨(some 12), none, (.h (.call (.c (.fn 52 [] [])) [(.tmp 11)])), 0, []⟩,
⟨none, none, (.h (.store 4 (.tmp 2) (.tmp 12))), 0, []⟩])
.ret)
(.seq
(.ops [⟨(some 14), none, (.p (.mv (.tmp 0))), 0, []⟩,
⟨(some 15), none, (.h (.call (.c (.fn 51 [] [])) [(.tmp 14), (.c (.str [59]))])), 0, []⟩,
⟨(some 13), none, (.p (.mv (.tmp 15))), 0, []⟩])
(.cond (.tmp 13)
(.seq
(.ops [⟨(some 16), none, (.h (.call (.c (.fn 28 [] [])) [(.c (.str [101, 109, 112, 116, 121])), (.c .nilsl)])), 0, []⟩,
⟨none, none, (.h (.store 4 (.tmp 2) (.tmp 16))), 0, []⟩])
.ret)
(.seq
(.ops [⟨(some 18), none, (.p (.mv (.tmp 0))), 0, []⟩,
⟨(some 19), none, (.h (.call (.c (.fn 51 [] [])) [(.tmp 18), (.c (.str [105, 102]))])), 0, []⟩,
⟨(some 17), none, (.p (.mv (.tmp 19))), 0, []⟩])
(.cond (.tmp 17)
(.seq
(.ops [⟨(some 20), none, (.p (.mv (.tmp 0))), 0, []⟩,
⟨(some 21), none, (.h (.call (.c (.fn 115 [] [])) [(.tmp 20)])), 0, []⟩,
⟨none, none, (.h (.store 4 (.tmp 2) (.tmp 21))), 0, []⟩])
.ret)
(.seq
(.ops [⟨(some 23), none, (.p (.mv (.tmp 0))), 0, []⟩,
⟨(some 24), none, (.h (.call (.c (.fn 51 [] [])) [(.tmp 23), (.c (.str [119, 104, 105, 108, 101]))])), 0, []⟩,
⟨(some 22), none, (.p (.mv (.tmp 24))), 0, []⟩])
(.cond (.tmp 22)
(.seq
(.ops [⟨(some 25), none, (.p (.mv (.tmp 0))), 0, []⟩,
⟨(some 26), none, (.h (.call (.c (.fn 55 [] [])) [(.tmp 25), (.c (.str [40]))])), 0, []⟩])
(.seq
(.ops [⟨(some 27), none, (.p (.mv (.tmp 0))), 0, []⟩,
⟨(some 28), none, (.h (.call (.c (.fn 116 [] [])) [(.tmp 27), (.c (.str [41]))])), 0, []⟩,
⟨(some 29), none, (.p (.mv (.tmp 0))), 0, []⟩,
⟨(some 30), none, (.h (.call (.c (.fn 117 [] [])) [(.tmp 29)])), 0, []⟩,
⟨(some 31), none, (.a (.mkSl [(.str []), (.str []), (.int .i64 0), .nilsl] 4 2 [(0, (4, (.tmp 28))), (4, (4, (.tmp 30)))])), 0, []⟩,
⟨(some 32), none, (.h (.call (.c (.fn 28 [] [])) [(.c (.str [119, 104, 105, 108, 101])), (.tmp 31)])), 0, []⟩,
⟨none, none, (.h (.store 4 (.tmp 2) (.tmp 32))), 0, []⟩])
.ret))
(.seq
(.ops [⟨(some 34), none, (.p (.mv (.tmp 0))), 0, []⟩,
⟨(some 35), none, (.h (.call (.c (.fn 51 [] [])) [(.tmp 34), (.c (.str [102, 111, 114]))])), 0, []⟩,
⟨(some 33), none, (.p (.mv (.tmp 35))), 0, []⟩])
(.cond (.tmp 33)
(.seq
(.ops [⟨(some 36), none, (.p (.mv (.tmp 0))), 0, []⟩,
⟨(some 37), none, (.h (.call (.c (.fn 118 [] [])) [(.tmp 36)])), 0, []⟩,
⟨none, none, (.h (.store 4 (.tmp 2) (.tmp 37))), 0, []⟩])
.ret)
.skip)))))))))))
(.seq
(.ops [⟨(some 38), none, (.p (.mv (.tmp 0))), 0, []⟩,
⟨(some 39), none, (.h (.call (.c (.fn 119 [] [])) [(.tmp 38)])), 0, []⟩,
⟨(some 3), none, (.a (.alloc [(.str []), (.str []), (.int .i64 0), .nilsl])), 0, []⟩,
⟨none, none, (.h (.store 4 (.tmp 3) (.tmp 39))), 0, []⟩])
(.seq
(.ops [⟨(some 40), none, (.p (.mv (.tmp 0))), 0, []⟩,
⟨(some 41), none, (.h (.call (.c (.fn 120 [] [])) [(.tmp 40)])), 0, []⟩])
(.seq
(.ops [⟨(some 42), none, (.r (.load 4 true (.tmp 3))), 0, []⟩,
⟨none, none, (.h (.store 4 (.tmp 2) (.tmp 42))), 0, []⟩])
.ret)))))))⟩
theorem c90 : Mir.compF Tryz.prog Tryz.f90 = some g90 := by kernel_rfl
/-- slices.Contains[[]int,int] -/
def g91 : Mir.Fn := ⟨9, [(.tmp 4)],
(.seq
(.ops [⟨(some 4), none, (.p (.mv (.c (.bool false)))), 0, []⟩])
(.seq
(.ops [⟨(some 5), none, (.p (.mv (.tmp 0))), 0, []⟩,
⟨(some 6), none, (.p (.mv (.tmp 1))), 0, []⟩,
⟨(some 7), none, (.h (.call (.c (.fn 121 [] [])) [(.tmp 5), (.tmp 6)])), 0, []⟩,
⟨(some 8), none, (.p (.bin .geq (.tmp 7) (.c (.int .i64 0)))), 0, []⟩,
⟨(some 4), none, (.p (.mv (.tmp 8))), 0, []⟩])
.ret))⟩
theorem c91 : Mir.compF Tryz.prog Tryz.f91 = some g91 := by kernel_rfl
/-- (*scribe/parse.parser).down -/
def g92 : Mir.Fn := ⟨30, [],
(.seq
(.ops [⟨(some 2), none, (.p (.mv (.tmp 0))), 0, []⟩,
⟨(some 3), none, (.p (.nilchk (.tmp 2))), 0, []⟩,
⟨(some 4), none, (.p (.fieldAt 2 (.tmp 3))), 0, []⟩,
⟨(some 5), none, (.r (.load 1 false (.tmp 4))), 0, []⟩,
⟨(some 6), none, (.p (.bin .add (.tmp 5) (.c (.int .i64 1)))), 0, []⟩,
⟨(some 7), none, (.p (.nilchk (.tmp 2))), 0, []⟩,
⟨(some 8), none, (.p (.fieldAt 2 (.tmp 7))), 0, []⟩,
⟨none, none, (.h (.store 1 (.tmp 8) (.tmp 6))), 0, []⟩])
(.seq
(.ops [⟨(some 9), none, (.p (.mv (.tmp 0))), 0, []⟩,
⟨(some 10), none, (.p (.nilchk (.tmp 9))), 0, []⟩,
⟨(some 11), none, (.p (.fieldAt 2 (.tmp 10))), 0, []⟩,
⟨(some 12), none, (.r (.load 1 false (.tmp 11))), 0, []⟩,
⟨(some 13), none, (.p (.bin .gtr (.tmp 12) (.c (.int .i64 50)))), 0, []⟩,
⟨(some 14), none, (.p (.mv (.tmp 13))), 0, []⟩,
⟨(some 15), (some (14, true)), (.p (.mv (.tmp 0))), 0, []⟩,
⟨(some 16), (some (14, true)), (.p (.nilchk (.tmp 15))), 0, []⟩,
⟨(some 17), (some (14, true)), (.p (.fieldAt 4 (.tmp 16))), 0, []⟩,
⟨(some 18), (some (14, true)), (.r (.load 1 false (.tmp 17))), 0, []⟩,
⟨(some 19), (some (14, true)), (.p (.bin .eql (.tmp 18) (.c (.int .i64 0)))), 0, []⟩,
⟨(some 20), none, (.p (.pick (.tmp 14) (.tmp 19) (.c (.bool false)))), 0, []⟩])
(.cond (.tmp 20)
(.ops [⟨(some 21), none, (.p (.mv (.tmp 0))), 0, []⟩,
⟨(some 22), none, (.p (.mv (.tmp 0))), 0, []⟩,
⟨(some 23), none, (.p (.mv (.tmp 0))), 0, []⟩,
⟨(some 24), none, (.h (.call (.c (.fn 30 [] [])) [(.tmp 23)])), 0, []⟩,
⟨(some 25), none, (.p (.field 2 1 false (.tmp 24))), 0, []⟩,
⟨(some 26), none, (.p (.nilchk (.tmp 21))), 0, []⟩,
⟨(some 27), none, (.p (.fieldAt 4 (.tmp 26))), 0, []⟩,
⟨none, none, (.h (.store 1 (.tmp 27) (.c (.int .i64 14)))), 0, []⟩,
⟨(some 28), none, (.p (.nilchk (.tmp 22))), 0, []⟩,
⟨(some 29), none, (.p (.fieldAt 5 (.tmp 28))), 0, []⟩,
⟨none, none, (.h (.store 1 (.tmp 29) (.tmp 25))), 0, []⟩])
.skip)))⟩
theorem c92 : Mir.compF Tryz.prog Tryz.f92 = some g92 := by kernel_rfl
/-- (*scribe/parse.parser).up -/
def g93 : Mir.Fn := ⟨9, [],
(.ops [⟨(some 2), none, (.p (.mv (.tmp 0))), 0, []⟩,
⟨(some 3), none, (.p (.nilchk (.tmp 2))), 0, []⟩,
⟨(some 4), none, (.p (.fieldAt 2 (.tmp 3))), 0, []⟩,
⟨(some 5), none, (.r (.load 1 false (.tmp 4))), 0, []⟩,
⟨(some 6), none, (.p (.bin .sub (.tmp 5) (.c (.int .i64 1)))), 0, []⟩,
⟨(some 7), none, (.p (.nilchk (.tmp 2))), 0, []⟩,
⟨(some 8), none, (.p (.fieldAt 2 (.tmp 7))), 0, []⟩,
⟨none, none, (.h (.store 1 (.tmp 8) (.tmp 6))), 0, []⟩])⟩
theorem c93 : Mir.compF Tryz.prog Tryz.f93 = some g93 := by kernel_rfl
/-- (*scribe/parse.parser).or -/
def g94 : Mir.Fn := ⟨9, [(.cell 2 4 true)],
(.seq
(.ops [⟨(some 2), none, (.a (.alloc [(.str []), (.str []), (.int .i64 0), .nilsl])), 0, []⟩])
(.seq
(.ops [⟨(some 3), none, (.p (.mv (.tmp 0))), 0, []⟩,
⟨(some 4), none, (.p (.mv (.tmp 0))), 0, []⟩,
⟨(some 5), none, (.p (.mkFn 123 [(.tmp 4)] [])), 0, []⟩,
⟨(some 6), none, (.a .mkMap), 0, []⟩,
⟨none, none, (.h (.mapUpd (.one .str) (.tmp 6) (.c (.str [124, 124])) (.c (.str [111, 114])))), 0, []⟩,
⟨(some 7), none, (.p (.mv (.tmp 6))), 0, []⟩,
⟨(some 8), none, (.h (.call (.c (.fn 122 [] [])) [(.tmp 3), (.tmp 5), (.c (.bool true)), (.tmp 7)])), 0, []⟩,
⟨none, none, (.h (.store 4 (.tmp 2) (.tmp 8))), 0, []⟩])
.ret))⟩
theorem c94 : Mir.compF Tryz.prog Tryz.f94 = some g94 := by kernel_rfl
/-- scribe/parse.place -/
def g95 : Mir.Fn := ⟨7, [(.tmp 2)],
(.seq
(.ops [⟨(some 1), none, (.a (.box (.tmp 0))), 0, []⟩,
⟨(some 2), none, (.p (.mv (.c (.bool false)))), 0, []⟩])
(.seq
(.ops [⟨(some 3), none, (.a (.mkSl [(.str [])] 1 3 [(0, (1, (.c (.str [118, 97, 114])))), (1, (1, (.c (.str [105, 110, 100, 101, 120])))), (2, (1, (.c (.str [102, 105, 101, 108, 100]))))])), 0, []⟩,
⟨(some 4), none, (.p (.fieldAt 0 (.tmp 1))), 0, []⟩,
⟨(some 5), none, (.r (.load 1 false (.tmp 4))), 0, []⟩,
⟨(some 6), none, (.h (.call (.c (.fn 50 [] [])) [(.tmp 3), (.tmp 5)])), 0, []⟩,
⟨(some 2), none, (.p (.mv (.tmp 6))), 0, []⟩])
.ret))⟩
theorem c95 : Mir.compF Tryz.prog Tryz.f95 = some g95 := by kernel_rfl
/-- scribe/ast.All$1 -/
def g96 : Mir.Fn := ⟨6, [],
(.ops [⟨(some 3), none, (.r (.load 4 true (.tmp 1))), 0, []⟩,
⟨(some 4), none, (.p (.mv (.tmp 0))), 0, []⟩,
⟨(some 5), none, (.h (.call (.c (.fn 97 [] [])) [(.tmp 3), (.c (.int .i64 0)), (.tmp 4)])), 0, []⟩])⟩
theorem c96 : Mir.compF Tryz.prog Tryz.f96 = some g96 := by kernel_rfl
/-- scribe/ast.walk -/
def g97 : Mir.Fn := ⟨28, [(.tmp 6)],
(.seq
(.ops [⟨(some 3), none, (.a (.box (.tmp 0))), 0, []⟩,
⟨(some 6), none, (.p (.mv (.c (.bool false)))), 0, []⟩])
(.seq
(.seq
(.ops [⟨(some 9), none, (.p (.mv (.tmp 2))), 0, []⟩,
⟨(some 10), none, (.p (.mv (.tmp 1))), 0, []⟩,
⟨(some 11), none, (.r (.load 4 true (.tmp 3))), 0, []⟩,
⟨(some 12), none, (.h (.call (.tmp 9) [(.tmp 10), (.tmp 11)])), 0, []⟩,
⟨(some 13), none, (.p (.un .not (.tmp 12))), 0, []⟩])
(.cond (.tmp 13)
(.seq
(.ops [⟨(some 6), none, (.p (.mv (.c (.bool false)))), 0, []⟩])
.ret)
.skip))
(.seq
(.seq
(.ops [⟨(some 14), none, (.p (.fieldAt 3 (.tmp 3))), 0, []⟩,
⟨(some 15), none, (.r (.load 1 false (.tmp 14))), 0, []⟩,
⟨(some 16), none, (.p (.lenSl (.tmp 15))), 0, []⟩,
⟨(some 17), none, (.p (.mv (.c (.int .i64 0)))), 0, []⟩])
(.block 0 (.loop (.seq
(.ops [⟨(some 18), none, (.p (.bin .lss (.tmp 17) (.tmp 16))), 0, []⟩])
(.seq
(.cond (.tmp 18)
.skip
(.exit 0))
(.seq
(.block 1 (.seq
(.ops [⟨(some 19), none, (.p (.idxSl 4 (.tmp 15) (.tmp 17))), 0, []⟩,
⟨(some 20), none, (.r (.load 4 true (.tmp 19))), 0, []⟩,
⟨(some 8), none, (.a (.alloc [(.str []), (.str []), (.int .i64 0), .nilsl])), 0, []⟩,
⟨none, none, (.h (.store 4 (.tmp 8) (.tmp 20))), 0, []⟩])
(.seq
(.ops [⟨(some 21), none, (.r (.load 4 true (.tmp 8))), 0, []⟩,
⟨(some 22), none, (.p (.mv (.tmp 1))), 0, []⟩,
⟨(some 23), none, (.p (.bin .add (.tmp 22) (.c (.int .i64 1)))), 0, []⟩,
⟨(some 24), none, (.p (.mv (.tmp 2))), 0, []⟩,
⟨(some 25), none, (.h (.call (.c (.fn 97 [] [])) [(.tmp 21), (.tmp 23), (.tmp 24)])), 0, []⟩,
⟨(some 26), none, (.p (.un .not (.tmp 25))), 0, []⟩])
(.cond (.tmp 26)
(.seq
(.ops [⟨(some 6), none, (.p (.mv (.c (.bool false)))), 0, []⟩])
.ret)
.skip))))
(.ops [⟨(some 27), none, (.p (.bin .add (.tmp 17) (.c (.int .i64 1)))), 0, []⟩,
⟨(some 17), none, (.p (.mv (.tmp 27))), 0, []⟩])))))))
(.seq
(.ops [⟨(some 6), none, (.p (.mv (.c (.bool true)))), 0, []⟩])
.ret))))⟩
theorem c97 : Mir.compF Tryz.prog Tryz.f97 = some g97 := by kernel_rfl
/-- (*scribe/resolve.resolver).name -/
def g98 : Mir.Fn := ⟨81, [],
(.seq
(.ops [⟨(some 6), none, (.a (.box (.tmp 2))), 0, []⟩])
(.seq
(.seq
(.draw [⟨(some 12), none, (.p (.mv (.tmp 0))), 0, []⟩,
⟨(some 13), none, (.p (.nilchk (.tmp 12))), 1, []⟩,
⟨(some 14), none, (.p (.fieldAt 0 (.tmp 13))), 2, []⟩,
⟨(some 15), none, (.r (.load 1 false (.tmp 14))), 3, []⟩,
⟨(some 16), none, (.p (.fieldAt 1 (.tmp 6))), 4, []⟩,
⟨(some 17), none, (.r (.load 1 false (.tmp 16))), 5, []⟩,
⟨(some 18), none, (.r (.lookup (.one .str) (.int .i64 0) true (.tmp 15) (.tmp 17))), 6, []⟩,
⟨(some 11), none, (.p (.mv (.tmp 18))), 7, []⟩,
⟨(some 19), none, (.p (.ext (.tmp 11) 0)), 8, []⟩,
⟨(some 20), none, (.p (.ext (.tmp 11) 1)), 9, []⟩,
⟨(some 8), none, (.p (.mv (.tmp 19))), 10, []⟩,
⟨(some 9), none, (.p (.mv (.tmp 20))), 11, []⟩])
(.seq
(.ops [⟨(some 21), none, (.p (.mv (.tmp 9))), 0, []⟩])
(.cond (.tmp 21)
(.seq
(.ops [⟨(some 22), none, (.p (.mv (.tmp 0))), 0, []⟩,
⟨(some 23), none, (.p (.fieldAt 2 (.tmp 6))), 0, []⟩,
⟨(some 24), none, (.r (.load 1 false (.tmp 23))), 0, []⟩,
⟨(some 25), none, (.h (.call (.c (.fn 65 [] [])) [(.tmp 22), (.tmp 24), (.c (.int .i64 11))])), 0, []⟩])
.ret)
.skip)))
(.seq
(.ops [⟨(some 26), none, (.p (.mv (.tmp 0))), 0, []⟩,
⟨(some 27), none, (.p (.mv (.tmp 1))), 0, []⟩,
⟨(some 28), none, (.p (.fieldAt 1 (.tmp 6))), 0, []⟩,
⟨(some 29), none, (.r (.load 1 false (.tmp 28))), 0, []⟩,
⟨(some 30), none, (.h (.call (.c (.fn 63 [] [])) [(.tmp 26), (.tmp 27), (.tmp 29)])), 0, []⟩,
⟨(some 10), none, (.a (.alloc [(.int .i64 0), (.str [])])), 0, []⟩,
⟨none, none, (.h (.store 2 (.tmp 10) (.tmp 30))), 0, []⟩])
(.seq
(.seq
(.draw [⟨(some 31), none, (.p (.mv (.tmp 0))), 0, []⟩,
⟨(some 32), none, (.p (.nilchk (.tmp 31))), 1, []⟩,
⟨(some 33), none, (.p (.fieldAt 2 (.tmp 32))), 2, []⟩,
⟨(some 34), none, (.r (.load 1 false (.tmp 33))), 3, []⟩,
⟨(some 35), none, (.r (.load 2 true (.tmp 10))), 4, []⟩,
⟨(some 36), none, (.r (.lookup (.agg [.int, .str]) (.bool false) false (.tmp 34) (.tmp 35))), 5, []⟩,
⟨(some 37), none, (.p (.mv (.tmp 3))), 6, []⟩,
⟨(some 38), none, (.p (.eq .bool true (.tmp 36) (.tmp 37))), 7, []⟩,
⟨(some 39), none, (.p (.mv (.tmp 38))), 8, []⟩,
⟨(some 40), (some (39, false)), (.p (.mv (.tmp 3))), 9, []⟩,
⟨(some 41), (some (39, false)), (.p (.mv (.tmp 40))), 10, []⟩,
⟨(some 42), (some (41, true)), (.p (.fieldAt 0 (.tmp 10))), 11, []⟩,
⟨(some 43), (some (41, true)), (.r (.load 1 false (.tmp 42))), 12, []⟩,
⟨(some 44), (some (41, true)), (.p (.bin .lss (.tmp 43) (.c (.int .i64 0)))), 13, []⟩,
⟨(some 45), (some (39, false)), (.p (.pick (.tmp 41) (.tmp 44) (.c (.bool false)))), 14, []⟩,
⟨(some 46), (some (39, false)), (.p (.mv (.tmp 45))), 15, []⟩,
⟨(some 47), (some (46, true)), (.r (.load 1 false (.glob 2))), 16, []⟩,
⟨(some 48), (some (46, true)), (.p (.fieldAt 1 (.tmp 6))), 17, []⟩,
⟨(some 49), (some (46, true)), (.r (.load 1 false (.tmp 48))), 18, []⟩,
⟨(some 50), (some (46, true)), (.h (.call (.c (.fn 50 [] [])) [(.tmp 47), (.tmp 49)])), 19, []⟩,
⟨(some 51), (some (39, false)), (.p (.pick (.tmp 46) (.tmp 50) (.c (.bool false)))), 20, []⟩,
⟨(some 52), none, (.p (.pick (.tmp 39) (.c (.bool true)) (.tmp 51))), 21, []⟩])
(.cond (.tmp 52)
(.ops [⟨(some 53), none, (.p (.mv (.tmp 0))), 0, []⟩,
⟨(some 54), none, (.p (.fieldAt 2 (.tmp 6))), 0, []⟩,
⟨(some 55), none, (.r (.load 1 false (.tmp 54))), 0, []⟩,
⟨(some 56), none, (.h (.call (.c (.fn 65 [] [])) [(.tmp 53), (.tmp 55), (.c (.int .i64 11))])), 0, []⟩])
.skip))
(.seq
(.draw [⟨(some 57), none, (.p (.fieldAt 0 (.tmp 10))), 0, []⟩,
⟨(some 58), none, (.r (.load 1 false (.tmp 57))), 1, []⟩,
⟨(some 59), none, (.p (.bin .lss (.tmp 58) (.c (.int .i64 0)))), 2, []⟩,
⟨(some 60), none, (.p (.mv (.tmp 59))), 3, []⟩,
⟨(some 61), (some (60, true)), (.p (.mv (.tmp 0))), 4, []⟩,
⟨(some 62), (some (60, true)), (.p (.nilchk (.tmp 61))), 5, []⟩,
⟨(some 63), (some (60, true)), (.p (.fieldAt 3 (.tmp 62))), 6, []⟩,
⟨(some 64), (some (60, true)), (.r (.load 1 false (.tmp 63))), 7, []⟩,
⟨(some 65), (some (60, true)), (.p (.fieldAt 1 (.tmp 6))), 8, []⟩,
⟨(some 66), (some (60, true)), (.r (.load 1 false (.tmp 65))), 9, []⟩,
⟨(some 67), (some (60, true)), (.h (.call (.c (.fn 50 [] [])) [(.tmp 64), (.tmp 66)])), 10, []⟩,
⟨(some 68), (some (60, true)), (.p (.un .not (.tmp 67))), 11, []⟩,
⟨(some 69), none, (.p (.pick (.tmp 60) (.tmp 68) (.c (.bool false)))), 12, []⟩])
(.cond (.tmp 69)
(.draw [⟨(some 70), none, (.p (.mv (.tmp 0))), 0, []⟩,
⟨(some 71), none, (.p (.mv (.tmp 0))), 1, []⟩,
⟨(some 72), none, (.p (.nilchk (.tmp 71))), 2, []⟩,
⟨(some 73), none, (.p (.fieldAt 3 (.tmp 72))), 3, []⟩,
⟨(some 74), none, (.r (.load 1 false (.tmp 73))), 4, []⟩,
⟨(some 75), none, (.p (.fieldAt 1 (.tmp 6))), 5, []⟩,
⟨(some 76), none, (.r (.load 1 false (.tmp 75))), 6, []⟩,
⟨(some 77), none, (.a (.mkSl [(.str [])] 1 1 [(0, (1, (.tmp 76)))])), 7, []⟩,
⟨(some 78), none, (.h (.app 1 16 (.tmp 74) (.tmp 77))), 8, []⟩,
⟨(some 79), none, (.p (.nilchk (.tmp 70))), 9, []⟩,
⟨(some 80), none, (.p (.fieldAt 3 (.tmp 79))), 10, []⟩,
⟨none, none, (.h (.store 1 (.tmp 80) (.tmp 78))), 11, []⟩])
.skip))))))⟩
theorem c98 : Mir.compF Tryz.prog Tryz.f98 = some g98 := by kernel_rfl
/-- (*scribe/resolve.resolver).call -/
def g99 : Mir.Fn := ⟨93, [],
(.seq
(.ops [⟨(some 6), none, (.a (.box (.tmp 2))), 0, []⟩,
⟨(some 7), none, (.a (.box (.tmp 3))), 0, []⟩])
(.seq
(.draw [⟨(some 13), none, (.p (.mv (.tmp 0))), 0, []⟩,
⟨(some 14), none, (.p (.nilchk (.tmp 13))), 1, []⟩,
⟨(some 15), none, (.p (.fieldAt 0 (.tmp 14))), 2, []⟩,
⟨(some 16), none, (.r (.load 1 false (.tmp 15))), 3, []⟩,
⟨(some 17), none, (.p (.fieldAt 1 (.tmp 6))), 4, []⟩,
⟨(some 18), none, (.r (.load 1 false (.tmp 17))), 5, []⟩,
⟨(some 19), none, (.r (.lookup (.one .str) (.int .i64 0) true (.tmp 16) (.tmp 18))), 6, []⟩,
⟨(some 12), none, (.p (.mv (.tmp 19))), 7, []⟩,
⟨(some 20), none, (.p (.ext (.tmp 12) 0)), 8, []⟩,
⟨(some 21), none, (.p (.ext (.tmp 12) 1)), 9, []⟩,
⟨(some 8), none, (.p (.mv (.tmp 20))), 10, []⟩,
⟨(some 9), none, (.p (.mv (.tmp 21))), 11, []⟩])
(.seq
(.seq
(.draw [⟨(some 22), none, (.p (.mv (.tmp 9))), 0, []⟩,
⟨(some 23), none, (.p (.un .not (.tmp 22))), 1, []⟩,
⟨(some 24), none, (.p (.mv (.tmp 23))), 2, []⟩,
⟨(some 25), (some (24, false)), (.p (.fieldAt 3 (.tmp 6))), 3, []⟩,
⟨(some 26), (some (24, false)), (.r (.load 1 false (.tmp 25))), 4, []⟩,
⟨(some 27), (some (24, false)), (.p (.lenSl (.tmp 26))), 5, []⟩,
⟨(some 28), (some (24, false)), (.p (.mv (.tmp 0))), 6, []⟩,
⟨(some 29), (some (24, false)), (.p (.nilchk (.tmp 28))), 7, []⟩,
⟨(some 30), (some (24, false)), (.p (.fieldAt 1 (.tmp 29))), 8, []⟩,
⟨(some 31), (some (24, false)), (.r (.load 1 false (.tmp 30))), 9, []⟩,
⟨(some 32), (some (24, false)), (.p (.nilchk (.tmp 31))), 10, []⟩,
⟨(some 33), (some (24, false)), (.p (.fieldAt 0 (.tmp 32))), 11, []⟩,
⟨(some 34), (some (24, false)), (.r (.load 1 false (.tmp 33))), 12, []⟩,
⟨(some 35), (some (24, false)), (.p (.mv (.tmp 8))), 13, []⟩,
⟨(some 36), (some (24, false)), (.p (.idxSl 7 (.tmp 34) (.tmp 35))), 14, []⟩,
⟨(some 37), (some (24, false)), (.p (.fieldAt 1 (.tmp 36))), 15, []⟩,
⟨(some 38), (some (24, false)), (.r (.load 1 false (.tmp 37))), 16, []⟩,
⟨(some 39), (some (24, false)), (.p (.lenSl (.tmp 38))), 17, []⟩,
⟨(some 40), (some (24, false)), (.p (.bin .gtr (.tmp 27) (.tmp 39))), 18, []⟩,
⟨(some 41), none, (.p (.pick (.tmp 24) (.c (.bool true)) (.tmp 40))), 19, []⟩])
(.cond (.tmp 41)
(.seq
(.ops [⟨(some 42), none, (.p (.mv (.tmp 0))), 0, []⟩,
⟨(some 43), none, (.p (.fieldAt 2 (.tmp 6))), 0, []⟩,
⟨(some 44), none, (.r (.load 1 false (.tmp 43))), 0, []⟩,
⟨(some 45), none, (.h (.call (.c (.fn 65 [] [])) [(.tmp 42), (.tmp 44), (.c (.int .i64 11))])), 0, []⟩])
.ret)
.skip))
(.seq
(.ops [⟨(some 46), none, (.p (.fieldAt 3 (.tmp 6))), 0, []⟩,
⟨(some 47), none, (.r (.load 1 false (.tmp 46))), 0, []⟩,
⟨(some 48), none, (.p (.lenSl (.tmp 47))), 0, []⟩,
⟨(some 49), none, (.p (.mv (.c (.int .i64 0)))), 0, []⟩])
(.block 0 (.loop (.seq
(.ops [⟨(some 50), none, (.p (.bin .lss (.tmp 49) (.tmp 48))), 0, []⟩])
(.seq
(.cond (.tmp 50)
.skip
(.exit 0))
(.seq
(.block 1 (.seq
(.ops [⟨(some 51), none, (.p (.mv (.tmp 49))), 0, []⟩,
⟨(some 52), none, (.p (.idxSl 4 (.tmp 47) (.tmp 49))), 0, []⟩,
⟨(some 53), none, (.r (.load 4 true (.tmp 52))), 0, []⟩,
⟨(some 11), none, (.a (.alloc [(.str []), (.str []), (.int .i64 0), .nilsl])), 0, []⟩,
⟨(some 10), none, (.p (.mv (.tmp 51))), 0, []⟩,
⟨none, none, (.h (.store 4 (.tmp 11) (.tmp 53))), 0, []⟩])
(.seq
(.seq
(.draw [⟨(some 54), none, (.p (.mv (.tmp 0))), 0, []⟩,
⟨(some 55), none, (.p (.nilchk (.tmp 54))), 1, []⟩,
⟨(some 56), none, (.p (.fieldAt 2 (.tmp 55))), 2, []⟩,
⟨(some 57), none, (.r (.load 1 false (.tmp 56))), 3, []⟩,
⟨(some 58), none, (.p (.mv (.tmp 8))), 4, []⟩,
⟨(some 59), none, (.p (.mv (.tmp 0))), 5, []⟩,
⟨(some 60), none, (.p (.nilchk (.tmp 59))), 6, []⟩,
⟨(some 61), none, (.p (.fieldAt 1 (.tmp 60))), 7, []⟩,
⟨(some 62), none, (.r (.load 1 false (.tmp 61))), 8, []⟩,
⟨(some 63), none, (.p (.nilchk (.tmp 62))), 9, []⟩,
⟨(some 64), none, (.p (.fieldAt 0 (.tmp 63))), 10, []⟩,
⟨(some 65), none, (.r (.load 1 false (.tmp 64))), 11, []⟩,
⟨(some 66), none, (.p (.mv (.tmp 8))), 12, []⟩,
⟨(some 67), none, (.p (.idxSl 7 (.tmp 65) (.tmp 66))), 13, []⟩,
⟨(some 68), none, (.p (.fieldAt 1 (.tmp 67))), 14, []⟩,
⟨(some 69), none, (.r (.load 1 false (.tmp 68))), 15, []⟩,
⟨(some 70), none, (.p (.mv (.tmp 10))), 16, []⟩,
⟨(some 71), none, (.p (.idxSl 1 (.tmp 69) (.tmp 70))), 17, []⟩,
⟨(some 72), none, (.r (.load 1 false (.tmp 71))), 18, []⟩,
⟨(some 73), none, (.p (.build [(.int .i64 0), (.str [])] [(0, (1, (.tmp 58))), (1, (1, (.tmp 72)))])), 19, []⟩,
⟨(some 74), none, (.r (.lookup (.agg [.int, .str]) (.bool false) false (.tmp 57) (.tmp 73))), 20, []⟩,
⟨(some 75), none, (.p (.un .not (.tmp 74))), 21, []⟩])
(.cond (.tmp 75)
(.seq
(.ops [⟨(some 76), none, (.p (.mv (.tmp 0))), 0, []⟩,
⟨(some 77), none, (.p (.mv (.tmp 1))), 0, []⟩,
⟨(some 78), none, (.r (.load 4 true (.tmp 11))), 0, []⟩,
⟨(some 79), none, (.r (.load 3 true (.tmp 7))), 0, []⟩,
⟨(some 80), none, (.h (.call (.c (.fn 64 [] [])) [(.tmp 76), (.tmp 77), (.tmp 78), (.tmp 79)])), 0, []⟩])
(.exit 1))
.skip))
(.seq
(.seq
(.ops [⟨(some 81), none, (.p (.fieldAt 0 (.tmp 11))), 0, []⟩,
⟨(some 82), none, (.r (.load 1 false (.tmp 81))), 0, []⟩,
⟨(some 83), none, (.p (.bin .neq (.tmp 82) (.c (.str [118, 97, 114])))), 0, []⟩])
(.cond (.tmp 83)
(.seq
(.ops [⟨(some 84), none, (.p (.mv (.tmp 0))), 0, []⟩,
⟨(some 85), none, (.p (.fieldAt 2 (.tmp 6))), 0, []⟩,
⟨(some 86), none, (.r (.load 1 false (.tmp 85))), 0, []⟩,
⟨(some 87), none, (.h (.call (.c (.fn 65 [] [])) [(.tmp 84), (.tmp 86), (.c (.int .i64 11))])), 0, []⟩])
.ret)
.skip))
(.ops [⟨(some 88), none, (.p (.mv (.tmp 0))), 0, []⟩,
⟨(some 89), none, (.p (.mv (.tmp 1))), 0, []⟩,
⟨(some 90), none, (.r (.load 4 true (.tmp 11))), 0, []⟩,
⟨(some 91), none, (.h (.call (.c (.fn 98 [] [])) [(.tmp 88), (.tmp 89), (.tmp 90), (.c (.bool true))])), 0, []⟩])))))
(.ops [⟨(some 92), none, (.p (.bin .add (.tmp 49) (.c (.int .i64 1)))), 0, []⟩,
⟨(some 49), none, (.p (.mv (.tmp 92))), 0, []⟩]))))))))))⟩
theorem c99 : Mir.compF Tryz.prog Tryz.f99 = some g99 := by kernel_rfl
/-- scribe/num.clamp -/
def g100 : Mir.Fn := ⟨20, [(.tmp 6)],
(.seq
(.ops [⟨(some 6), none, (.p (.mv (.c (.int .i64 0)))), 0, []⟩])
(.seq
(.ops [⟨(some 7), none, (.p (.mv (.c (.int .i64 4611686018427387903)))), 0, []⟩])
(.seq
(.seq
(.ops [⟨(some 8), none, (.p (.mv (.tmp 1))), 0, []⟩,
⟨(some 9), none, (.p (.bin .eql (.tmp 8) (.c (.int .u64 0)))), 0, []⟩,
⟨(some 10), none, (.p (.mv (.tmp 9))), 0, []⟩,
⟨(some 11), (some (10, true)), (.p (.mv (.tmp 2))), 0, []⟩,
⟨(some 12), (some (10, true)), (.p (.bin .lss (.tmp 11) (.c (.int .u64 4611686018427387903)))), 0, []⟩,
⟨(some 13), none, (.p (.pick (.tmp 10) (.tmp 12) (.c (.bool false)))), 0, []⟩])
(.cond (.tmp 13)
(.ops [⟨(some 14), none, (.p (.mv (.tmp 2))), 0, []⟩,
⟨(some 15), none, (.p (.convInt .i64 (.tmp 14))), 0, []⟩,
⟨(some 7), none, (.p (.mv (.tmp 15))), 0, []⟩])
.skip))
(.seq
(.seq
(.ops [⟨(some 16), none, (.p (.mv (.tmp 0))), 0, []⟩])
(.cond (.tmp 16)
(.seq
(.ops [⟨(some 17), none, (.p (.mv (.tmp 7))), 0, []⟩,
⟨(some 18), none, (.p (.un .neg (.tmp 17))), 0, []⟩,
⟨(some 6), none, (.p (.mv (.tmp 18))), 0, []⟩])
.ret)
.skip))
(.seq
(.ops [⟨(some 19), none, (.p (.mv (.tmp 7))), 0, []⟩,
⟨(some 6), none, (.p (.mv (.tmp 19))), 0, []⟩])
.ret)))))⟩
theorem c100 : Mir.compF Tryz.prog Tryz.f100 = some g100 := by kernel_rfl
/-- (*scribe/code.compiler).replace -/
def g101 : Mir.Fn := ⟨21, [],
(.seq
(.ops [⟨(some 2), none, (.a (.box (.tmp 0))), 0, []⟩,
⟨(some 3), none, (.a (.box (.tmp 1))), 0, []⟩])
(.seq
(.ops [⟨(some 4), none, (.a (.alloc [(.int .i64 0)])), 0, []⟩,
⟨none, none, (.h (.store 1 (.tmp 4) (.c (.int .i64 0)))), 0, []⟩])
(.seq
(.seq
(.ops [⟨(some 6), none, (.p (.fieldAt 1 (.tmp 3))), 0, []⟩,
⟨(some 7), none, (.r (.load 1 false (.tmp 6))), 0, []⟩,
⟨(some 8), none, (.p (.bin .eql (.tmp 7) (.c (.str [103, 115, 117, 98])))), 0, []⟩])
(.cond (.tmp 8)
(.ops [⟨none, none, (.h (.store 1 (.tmp 4) (.c (.int .i64 1)))), 0, []⟩])
.skip))
(.seq
(.ops [⟨(some 9), none, (.p (.fieldAt 3 (.tmp 3))), 0, []⟩,
⟨(some 10), none, (.r (.load 1 false (.tmp 9))), 0, []⟩,
⟨(some 11), none, (.p (.idxSl 4 (.tmp 10) (.c (.int .i64 2)))), 0, []⟩,
⟨(some 12), none, (.r (.load 4 true (.tmp 11))), 0, []⟩,
⟨(some 5), none, (.a (.alloc [(.str []), (.str []), (.int .i64 0), .nilsl])), 0, []⟩,
⟨none, none, (.h (.store 4 (.tmp 5) (.tmp 12))), 0, []⟩])
(.seq
(.ops [⟨(some 13), none, (.r (.load 1 false (.tmp 2))), 0, []⟩,
⟨(some 14), none, (.r (.load 4 true (.tmp 5))), 0, []⟩,
⟨(some 15), none, (.p (.mkFn 124 [] [(.tmp 2), (.tmp 5), (.tmp 3), (.tmp 4)])), 0, []⟩,
⟨(some 16), none, (.h (.call (.c (.fn 68 [] [])) [(.tmp 13), (.tmp 14), (.c (.int .i64 0)), (.tmp 15)])), 0, []⟩])
(.seq
(.ops [⟨(some 17), none, (.r (.load 1 false (.tmp 2))), 0, []⟩,
⟨(some 18), none, (.h (.call (.c (.fn 23 [] [])) [(.tmp 17), (.c (.int .i64 18)), (.c (.int .i64 0)), (.c (.int .i64 0))])), 0, []⟩])
(.ops [⟨(some 19), none, (.r (.load 1 false (.tmp 2))), 0, []⟩,
⟨(some 20), none, (.h (.call (.c (.fn 23 [] [])) [(.tmp 19), (.c (.int .i64 26)), (.c (.int .i64 0)), (.c (.int .i64 0))])), 0, []⟩])))))))⟩
theorem c101 : Mir.compF Tryz.prog Tryz.f101 = some g101 := by kernel_rfl
/-- (*scribe/code.checker).is -/
def g102 : Mir.Fn := ⟨55, [(.tmp 10)],
(.seq
(.ops [⟨(some 10), none, (.p (.mv (.c (.bool false)))), 0, []⟩])
(.seq
(.ops [⟨(some 12), none, (.p (.mv (.tmp 0))), 0, []⟩,
⟨(some 13), none, (.p (.nilchk (.tmp 12))), 0, []⟩,
⟨(some 14), none, (.p (.fieldAt 0 (.tmp 13))), 0, []⟩,
⟨(some 15), none, (.r (.load 1 false (.tmp 14))), 0, []⟩,
⟨(some 16), none, (.p (.nilchk (.tmp 15))), 0, []⟩,
⟨(some 17), none, (.p (.fieldAt 5 (.tmp 16))), 0, []⟩,
⟨(some 18), none, (.r (.load 1 false (.tmp 17))), 0, []⟩,
⟨(some 11), none, (.p (.mv (.tmp 18))), 0, []⟩])
(.seq
(.seq
(.ops [⟨(some 19), none, (.p (.mv (.tmp 3))), 0, []⟩,
⟨(some 20), none, (.p (.bin .eql (.tmp 19) (.c (.int .i64 1)))), 0, []⟩,
⟨(some 21), none, (.p (.mv (.tmp 20))), 0, []⟩,
⟨(some 22), (some (21, true)), (.p (.mv (.tmp 1))), 0, []⟩,
⟨(some 23), (some (21, true)), (.p (.bin .gtr (.tmp 22) (.c (.int .i64 2)))), 0, []⟩,
⟨(some 24), none, (.p (.pick (.tmp 21) (.tmp 23) (.c (.bool false)))), 0, []⟩])
(.cond (.tmp 24)
(.ops [⟨(some 25), none, (.p (.mv (.tmp 0))), 0, []⟩,
⟨(some 26), none, (.p (.nilchk (.tmp 25))), 0, []⟩,
⟨(some 27), none, (.p (.fieldAt 0 (.tmp 26))), 0, []⟩,
⟨(some 28), none, (.r (.load 1 false (.tmp 27))), 0, []⟩,
⟨(some 29), none, (.p (.nilchk (.tmp 28))), 0, []⟩,
⟨(some 30), none, (.p (.fieldAt 3 (.tmp 29))), 0, []⟩,
⟨(some 31), none, (.r (.load 1 false (.tmp 30))), 0, []⟩,
⟨(some 32), none, (.p (.mv (.tmp 1))), 0, []⟩,
⟨(some 33), none, (.p (.bin .sub (.tmp 32) (.c (.int .i64 3)))), 0, []⟩,
⟨(some 34), none, (.p (.idxSl 2 (.tmp 31) (.tmp 33))), 0, []⟩,
⟨(some 35), none, (.p (.fieldAt 1 (.tmp 34))), 0, []⟩,
⟨(some 36), none, (.r (.load 1 false (.tmp 35))), 0, []⟩,
⟨(some 11), none, (.p (.mv (.tmp 36))), 0, []⟩])
(.seq
(.ops [⟨(some 37), none, (.p (.mv (.tmp 3))), 0, []⟩,
⟨(some 38), none, (.p (.bin .neq (.tmp 37) (.c (.int .i64 0)))), 0, []⟩])
(.cond (.tmp 38)
(.seq
(.ops [⟨(some 10), none, (.p (.mv (.c (.bool false)))), 0, []⟩])
.ret)
.skip))))
(.seq
(.ops [⟨(some 39), none, (.p (.mv (.tmp 2))), 0, []⟩,
⟨(some 40), none, (.p (.bin .geq (.tmp 39) (.c (.int .i64 0)))), 0, []⟩,
⟨(some 41), none, (.p (.mv (.tmp 40))), 0, []⟩,
⟨(some 42), (some (41, true)), (.p (.mv (.tmp 2))), 0, []⟩,
⟨(some 43), (some (41, true)), (.p (.mv (.tmp 11))), 0, []⟩,
⟨(some 44), (some (41, true)), (.p (.lenSl (.tmp 43))), 0, []⟩,
⟨(some 45), (some (41, true)), (.p (.bin .lss (.tmp 42) (.tmp 44))), 0, []⟩,
⟨(some 46), none, (.p (.pick (.tmp 41) (.tmp 45) (.c (.bool false)))), 0, []⟩,
⟨(some 47), none, (.p (.mv (.tmp 46))), 0, []⟩,
⟨(some 48), (some (47, true)), (.p (.mv (.tmp 11))), 0, []⟩,
⟨(some 49), (some (47, true)), (.p (.mv (.tmp 2))), 0, []⟩,
⟨(some 50), (some (47, true)), (.p (.idxSl 1 (.tmp 48) (.tmp 49))), 0, []⟩,
⟨(some 51), (some (47, true)), (.r (.load 1 false (.tmp 50))), 0, []⟩,
⟨(some 52), (some (47, true)), (.p (.mv (.tmp 4))), 0, []⟩,
⟨(some 53), (some (47, true)), (.p (.eq .bool false (.tmp 51) (.tmp 52))), 0, []⟩,
⟨(some 54), none, (.p (.pick (.tmp 47) (.tmp 53) (.c (.bool false)))), 0, []⟩,
⟨(some 10), none, (.p (.mv (.tmp 54))), 0, []⟩])
.ret))))⟩
theorem c102 : Mir.compF Tryz.prog Tryz.f102 = some g102 := by kernel_rfl
/-- (*scribe/code.checker).many -/
def g103 : Mir.Fn := ⟨195, [(.tmp 4), (.tmp 5), (.tmp 6)],
(.seq
(.ops [⟨(some 3), none, (.a (.box (.tmp 1))), 0, []⟩,
⟨(some 4), none, (.p (.mv (.c (.str [])))), 0, []⟩,
⟨(some 5), none, (.p (.mv (.c (.str [])))), 0, []⟩,
⟨(some 6), none, (.p (.mv (.c (.bool false)))), 0, []⟩])
(.seq
(.ops [⟨(some 7), none, (.p (.mv (.c (.fn 125 [] [])))), 0, []⟩])
(.seq
(.seq
(.ops [⟨(some 17), none, (.p (.fieldAt 0 (.tmp 3))), 0, []⟩,
⟨(some 18), none, (.r (.load 1 false (.tmp 17))), 0, []⟩])
(.block 0 (.seq
(.ops [⟨(some 20), none, (.p (.bin .eql (.tmp 18) (.c (.int .i64 21)))), 0, []⟩,
⟨(some 19), none, (.p (.mv (.tmp 20))), 0, []⟩])
(.cond (.tmp 19)
(.seq
(.seq
(.draw [⟨(some 21), none, (.p (.fieldAt 1 (.tmp 3))), 0, []⟩,
⟨(some 22), none, (.r (.load 1 false (.tmp 21))), 1, []⟩,
⟨(some 23), none, (.p (.bin .lss (.tmp 22) (.c (.int .i64 0)))), 2, []⟩,
⟨(some 24), none, (.p (.mv (.tmp 23))), 3, []⟩,
⟨(some 25), (some (24, false)), (.p (.fieldAt 1 (.tmp 3))), 4, []⟩,
⟨(some 26), (some (24, false)), (.r (.load 1 false (.tmp 25))), 5, []⟩,
⟨(some 27), (some (24, false)), (.p (.mv (.tmp 0))), 6, []⟩,
⟨(some 28), (some (24, false)), (.p (.nilchk (.tmp 27))), 7, []⟩,
⟨(some 29), (some (24, false)), (.p (.fieldAt 0 (.tmp 28))), 8, []⟩,
⟨(some 30), (some (24, false)), (.r (.load 1 false (.tmp 29))), 9, []⟩,
⟨(some 31), (some (24, false)), (.p (.nilchk (.tmp 30))), 10, []⟩,
⟨(some 32), (some (24, false)), (.p (.fieldAt 3 (.tmp 31))), 11, []⟩,
⟨(some 33), (some (24, false)), (.r (.load 1 false (.tmp 32))), 12, []⟩,
⟨(some 34), (some (24, false)), (.p (.lenSl (.tmp 33))), 13, []⟩,
⟨(some 35), (some (24, false)), (.p (.bin .geq (.tmp 26) (.tmp 34))), 14, []⟩,
⟨(some 36), none, (.p (.pick (.tmp 24) (.c (.bool true)) (.tmp 35))), 15, []⟩,
⟨(some 37), none, (.p (.mv (.tmp 36))), 16, []⟩,
⟨(some 38), (some (37, false)), (.p (.fieldAt 2 (.tmp 3))), 17, []⟩,
⟨(some 39), (some (37, false)), (.r (.load 1 false (.tmp 38))), 18, []⟩,
⟨(some 40), (some (37, false)), (.p (.bin .lss (.tmp 39) (.c (.int .i64 0)))), 19, []⟩,
⟨(some 41), none, (.p (.pick (.tmp 37) (.c (.bool true)) (.tmp 40))), 20, []⟩,
⟨(some 42), none, (.p (.mv (.tmp 41))), 21, []⟩,
⟨(some 43), (some (42, false)), (.p (.fieldAt 2 (.tmp 3))), 22, []⟩,
⟨(some 44), (some (42, false)), (.r (.load 1 false (.tmp 43))), 23, []⟩,
⟨(some 45), (some (42, false)), (.p (.mv (.tmp 0))), 24, []⟩,
⟨(some 46), (some (42, false)), (.p (.nilchk (.tmp 45))), 25, []⟩,
⟨(some 47), (some (42, false)), (.p (.fieldAt 0 (.tmp 46))), 26, []⟩,
⟨(some 48), (some (42, false)), (.r (.load 1 false (.tmp 47))), 27, []⟩,
⟨(some 49), (some (42, false)), (.p (.nilchk (.tmp 48))), 28, []⟩,
⟨(some 50), (some (42, false)), (.p (.fieldAt 3 (.tmp 49))), 29, []⟩,
⟨(some 51), (some (42, false)), (.r (.load 1 false (.tmp 50))), 30, []⟩,
⟨(some 52), (some (42, false)), (.p (.fieldAt 1 (.tmp 3))), 31, []⟩,
⟨(some 53), (some (42, false)), (.r (.load 1 false (.tmp 52))), 32, []⟩,
⟨(some 54), (some (42, false)), (.p (.idxSl 2 (.tmp 51) (.tmp 53))), 33, []⟩,
⟨(some 55), (some (42, false)), (.p (.fieldAt 1 (.tmp 54))), 34, []⟩,
⟨(some 56), (some (42, false)), (.r (.load 1 false (.tmp 55))), 35, []⟩,
⟨(some 57), (some (42, false)), (.p (.lenSl (.tmp 56))), 36, []⟩,
⟨(some 58), (some (42, false)), (.p (.bin .gtr (.tmp 44) (.tmp 57))), 37, []⟩,
⟨(some 59), none, (.p (.pick (.tmp 42) (.c (.bool true)) (.tmp 58))), 38, []⟩])
(.cond (.tmp 59)
(.seq
(.ops [⟨(some 4), none, (.p (.mv (.c (.str [])))), 0, []⟩,
⟨(some 5), none, (.p (.mv (.c (.str [])))), 0, []⟩,
⟨(some 6), none, (.p (.mv (.c (.bool false)))), 0, []⟩])
.ret)
.skip))
(.seq
(.ops [⟨(some 8), none, (.p (.mv (.c (.str [])))), 0, []⟩])
(.seq
(.seq
(.draw [⟨(some 60), none, (.p (.mv (.tmp 0))), 0, []⟩,
⟨(some 61), none, (.p (.nilchk (.tmp 60))), 1, []⟩,
⟨(some 62), none, (.p (.fieldAt 0 (.tmp 61))), 2, []⟩,
⟨(some 63), none, (.r (.load 1 false (.tmp 62))), 3, []⟩,
⟨(some 64), none, (.p (.nilchk (.tmp 63))), 4, []⟩,
⟨(some 65), none, (.p (.fieldAt 3 (.tmp 64))), 5, []⟩,
⟨(some 66), none, (.r (.load 1 false (.tmp 65))), 6, []⟩,
⟨(some 67), none, (.p (.fieldAt 1 (.tmp 3))), 7, []⟩,
⟨(some 68), none, (.r (.load 1 false (.tmp 67))), 8, []⟩,
⟨(some 69), none, (.p (.idxSl 2 (.tmp 66) (.tmp 68))), 9, []⟩,
⟨(some 70), none, (.p (.fieldAt 1 (.tmp 69))), 10, []⟩,
⟨(some 71), none, (.r (.load 1 false (.tmp 70))), 11, []⟩,
⟨(some 72), none, (.p (.fieldAt 2 (.tmp 3))), 12, []⟩,
⟨(some 73), none, (.r (.load 1 false (.tmp 72))), 13, []⟩,
⟨(some 74), none, (.p (.subSl 1 (.tmp 71) none (some (.tmp 73)))), 14, []⟩,
⟨(some 75), none, (.p (.lenSl (.tmp 74))), 15, []⟩,
⟨(some 76), none, (.p (.mv (.c (.int .i64 0)))), 16, []⟩])
(.block 1 (.loop (.seq
(.ops [⟨(some 77), none, (.p (.bin .lss (.tmp 76) (.tmp 75))), 0, []⟩])
(.seq
(.cond (.tmp 77)
.skip
(.exit 1))
(.seq
(.block 2 (.seq
(.ops [⟨(some 78), none, (.p (.idxSl 1 (.tmp 74) (.tmp 76))), 0, []⟩,
⟨(some 79), none, (.r (.load 1 false (.tmp 78))), 0, []⟩,
⟨(some 10), none, (.p (.mv (.tmp 79))), 0, []⟩])
(.ops [⟨(some 80), none, (.p (.mv (.tmp 8))), 0, []⟩,
⟨(some 81), none, (.a .mkMap), 0, []⟩,
⟨none, none, (.h (.mapUpd (.one .bool) (.tmp 81) (.c (.bool false)) (.c (.str [118])))), 0, []⟩,
⟨none, none, (.h (.mapUpd (.one .bool) (.tmp 81) (.c (.bool true)) (.c (.str [97])))), 0, []⟩,
⟨(some 82), none, (.p (.mv (.tmp 81))), 0, []⟩,
⟨(some 83), none, (.p (.mv (.tmp 10))), 0, []⟩,
⟨(some 84), none, (.r (.lookup (.one .bool) (.str []) false (.tmp 82) (.tmp 83))), 0, []⟩,
⟨(some 85), none, (.p (.bin .add (.tmp 80) (.tmp 84))), 0, []⟩,
⟨(some 8), none, (.p (.mv (.tmp 85))), 0, []⟩])))
(.ops [⟨(some 86), none, (.p (.bin .add (.tmp 76) (.c (.int .i64 1)))), 0, []⟩,
⟨(some 76), none, (.p (.mv (.tmp 86))), 0, []⟩])))))))
(.seq
(.ops [⟨(some 87), none, (.p (.mv (.tmp 8))), 0, []⟩,
⟨(some 4), none, (.p (.mv (.tmp 87))), 0, []⟩,
⟨(some 5), none, (.p (.mv (.c (.str [118])))), 0, []⟩,
⟨(some 6), none, (.p (.mv (.c (.bool true)))), 0, []⟩])
.ret))))
(.seq
(.ops [⟨(some 89), none, (.p (.bin .eql (.tmp 18) (.c (.int .i64 24)))), 0, []⟩,
⟨(some 88), none, (.p (.mv (.tmp 89))), 0, []⟩])
(.cond (.tmp 88)
(.seq
(.ops [⟨(some 90), none, (.a .mkMap), 0, []⟩,
⟨none, none, (.h (.mapUpd (.one .str) (.tmp 90) (.c (.str [115, 117, 98, 115, 116, 114])) (.c (.int .i64 2)))), 0, []⟩,
⟨none, none, (.h (.mapUpd (.one .str) (.tmp 90) (.c (.str [105, 110, 100, 101, 120])) (.c (.int .i64 2)))), 0, []⟩,
⟨none, none, (.h (.mapUpd (.one .str) (.tmp 90) (.c (.str [115, 112, 108, 105, 116])) (.c (.int .i64 2)))), 0, []⟩,
⟨none, none, (.h (.mapUpd (.one .str) (.tmp 90) (.c (.str [109, 97, 116, 99, 104])) (.c (.int .i64 2)))), 0, []⟩,
⟨none, none, (.h (.mapUpd (.one .str) (.tmp 90) (.c (.str [114, 97, 110, 100])) (.c (.int .i64 0)))), 0, []⟩,
⟨(some 91), none, (.p (.mv (.tmp 90))), 0, []⟩,
⟨(some 11), none, (.p (.mv (.tmp 91))), 0, []⟩])
(.seq
(.ops [⟨(some 92), none, (.a .mkMap), 0, []⟩,
⟨none, none, (.h (.mapUpd (.one .str) (.tmp 92) (.c (.str [115, 117, 98, 115, 116, 114])) (.c (.int .i64 3)))), 0, []⟩,
⟨none, none, (.h (.mapUpd (.one .str) (.tmp 92) (.c (.str [105, 110, 100, 101, 120])) (.c (.int .i64 2)))), 0, []⟩,
⟨none, none, (.h (.mapUpd (.one .str) (.tmp 92) (.c (.str [115, 112, 108, 105, 116])) (.c (.int .i64 4)))), 0, []⟩,
⟨none, none, (.h (.mapUpd (.one .str) (.tmp 92) (.c (.str [109, 97, 116, 99, 104])) (.c (.int .i64 2)))), 0, []⟩,
⟨none, none, (.h (.mapUpd (.one .str) (.tmp 92) (.c (.str [114, 97, 110, 100])) (.c (.int .i64 0)))), 0, []⟩,
⟨none, none, (.h (.mapUpd (.one .str) (.tmp 92) (.c (.str [115, 112, 114, 105, 110, 116, 102])) (.c (.int .i64 5000)))), 0, []⟩,
⟨(some 93), none, (.p (.mv (.tmp 92))), 0, []⟩,
⟨(some 12), none, (.p (.mv (.tmp 93))), 0, []⟩])
(.seq
(.ops [⟨(some 94), none, (.p (.fieldAt 1 (.tmp 3))), 0, []⟩,
⟨(some 95), none, (.r (.load 1 false (.tmp 94))), 0, []⟩,
⟨(some 96), none, (.h (.call (.c (.fn 13 [] [])) [(.tmp 95)])), 0, []⟩,
⟨(some 13), none, (.p (.mv (.tmp 96))), 0, []⟩])
(.seq
(.ops [⟨(some 98), none, (.p (.mv (.tmp 11))), 0, []⟩,
⟨(some 99), none, (.p (.mv (.tmp 13))), 0, []⟩,
⟨(some 100), none, (.r (.lookup (.one .str) (.int .i64 0) true (.tmp 98) (.tmp 99))), 0, []⟩,
⟨(some 97), none, (.p (.mv (.tmp 100))), 0, []⟩,
⟨(some 101), none, (.p (.ext (.tmp 97) 0)), 0, []⟩,
⟨(some 102), none, (.p (.ext (.tmp 97) 1)), 0, []⟩,
⟨(some 14), none, (.p (.mv (.tmp 101))), 0, []⟩,
⟨(some 15), none, (.p (.mv (.tmp 102))), 0, []⟩])
(.seq
(.seq
(.ops [⟨(some 103), none, (.p (.mv (.tmp 15))), 0, []⟩,
⟨(some 104), none, (.p (.un .not (.tmp 103))), 0, []⟩])
(.cond (.tmp 104)
(.ops [⟨(some 14), none, (.p (.mv (.c (.int .i64 1)))), 0, []⟩])
.skip))
(.seq
(.ops [⟨(some 106), none, (.p (.mv (.tmp 12))), 0, []⟩,
⟨(some 107), none, (.p (.mv (.tmp 13))), 0, []⟩,
⟨(some 108), none, (.r (.lookup (.one .str) (.int .i64 0) true (.tmp 106) (.tmp 107))), 0, []⟩,
⟨(some 105), none, (.p (.mv (.tmp 108))), 0, []⟩,
⟨(some 109), none, (.p (.ext (.tmp 105) 0)), 0, []⟩,
⟨(some 110), none, (.p (.ext (.tmp 105) 1)), 0, []⟩,
⟨(some 16), none, (.p (.mv (.tmp 109))), 0, []⟩,
⟨(some 15), none, (.p (.mv (.tmp 110))), 0, []⟩])
(.seq
(.seq
(.ops [⟨(some 111), none, (.p (.mv (.tmp 15))), 0, []⟩,
⟨(some 112), none, (.p (.un .not (.tmp 111))), 0, []⟩])
(.cond (.tmp 112)
(.ops [⟨(some 16), none, (.p (.mv (.c (.int .i64 1)))), 0, []⟩])
.skip))
(.seq
(.seq
(.ops [⟨(some 113), none, (.p (.mv (.tmp 13))), 0, []⟩,
⟨(some 114), none, (.p (.bin .eql (.tmp 113) (.c (.str [115, 112, 108, 105, 116])))), 0, []⟩])
(.cond (.tmp 114)
(.seq
(.draw [⟨(some 115), none, (.p (.mv (.tmp 7))), 0, []⟩,
⟨(some 116), none, (.p (.fieldAt 2 (.tmp 3))), 1, []⟩,
⟨(some 117), none, (.r (.load 1 false (.tmp 116))), 2, []⟩,
⟨(some 118), none, (.p (.mnmx false (.tmp 117) [(.c (.int .i64 3))])), 3, []⟩,
⟨(some 119), none, (.p (.bin .sub (.tmp 118) (.c (.int .i64 2)))), 4, []⟩,
⟨(some 122), none, (.p (.fieldAt 2 (.tmp 3))), 7, []⟩,
⟨(some 123), none, (.r (.load 1 false (.tmp 122))), 8, []⟩,
⟨(some 124), none, (.p (.mv (.tmp 14))), 9, []⟩,
⟨(some 125), none, (.p (.bin .geq (.tmp 123) (.tmp 124))), 10, []⟩,
⟨(some 120), none, (.h (.call (.tmp 115) [(.tmp 119)])), 5, [8]⟩,
⟨(some 121), none, (.p (.bin .add (.c (.str [118, 97])) (.tmp 120))), 6, []⟩,
⟨(some 126), none, (.p (.mv (.tmp 125))), 11, []⟩,
⟨(some 127), (some (126, true)), (.p (.fieldAt 2 (.tmp 3))), 12, []⟩,
⟨(some 128), (some (126, true)), (.r (.load 1 false (.tmp 127))), 13, []⟩,
⟨(some 129), (some (126, true)), (.p (.mv (.tmp 16))), 14, []⟩,
⟨(some 130), (some (126, true)), (.p (.bin .leq (.tmp 128) (.tmp 129))), 15, []⟩,
⟨(some 131), none, (.p (.pick (.tmp 126) (.tmp 130) (.c (.bool false)))), 16, []⟩,
⟨(some 4), none, (.p (.mv (.tmp 121))), 17, []⟩,
⟨(some 5), none, (.p (.mv (.c (.str [118])))), 18, []⟩,
⟨(some 6), none, (.p (.mv (.tmp 131))), 19, []⟩])
.ret)
.skip))
(.seq
(.draw [⟨(some 132), none, (.p (.mv (.tmp 7))), 0, []⟩,
⟨(some 133), none, (.p (.fieldAt 2 (.tmp 3))), 1, []⟩,
⟨(some 134), none, (.r (.load 1 false (.tmp 133))), 2, []⟩,
⟨(some 136), none, (.p (.mv (.tmp 13))), 4, []⟩,
⟨(some 137), none, (.p (.bin .neq (.tmp 136) (.c (.str [])))), 5, []⟩,
⟨(some 135), none, (.h (.call (.tmp 132) [(.tmp 134)])), 3, []⟩,
⟨(some 138), none, (.p (.mv (.tmp 137))), 6, []⟩,
⟨(some 139), (some (138, true)), (.p (.fieldAt 2 (.tmp 3))), 7, []⟩,
⟨(some 140), (some (138, true)), (.r (.load 1 false (.tmp 139))), 8, []⟩,
⟨(some 141), (some (138, true)), (.p (.mv (.tmp 14))), 9, []⟩,
⟨(some 142), (some (138, true)), (.p (.bin .geq (.tmp 140) (.tmp 141))), 10, []⟩,
⟨(some 143), none, (.p (.pick (.tmp 138) (.tmp 142) (.c (.bool false)))), 11, []⟩,
⟨(some 144), none, (.p (.mv (.tmp 143))), 12, []⟩,
⟨(some 145), (some (144, true)), (.p (.fieldAt 2 (.tmp 3))), 13, []⟩,
⟨(some 146), (some (144, true)), (.r (.load 1 false (.tmp 145))), 14, []⟩,
⟨(some 147), (some (144, true)), (.p (.mv (.tmp 16))), 15, []⟩,
⟨(some 148), (some (144, true)), (.p (.bin .leq (.tmp 146) (.tmp 147))), 16, []⟩,
⟨(some 149), none, (.p (.pick (.tmp 144) (.tmp 148) (.c (.bool false)))), 17, []⟩,
⟨(some 4), none, (.p (.mv (.tmp 135))), 18, []⟩,
⟨(some 5), none, (.p (.mv (.c (.str [118])))), 19, []⟩,
⟨(some 6), none, (.p (.mv (.tmp 149))), 20, []⟩])
.ret)))))))))
(.seq
(.seq
(.ops [⟨(some 151), none, (.p (.bin .eql (.tmp 18) (.c (.int .i64 27)))), 0, []⟩,
⟨(some 150), none, (.p (.mv (.tmp 151))), 0, []⟩])
(.cond (.tmp 150)
.skip
(.ops [⟨(some 152), none, (.p (.bin .eql (.tmp 18) (.c (.int .i64 28)))), 0, []⟩,
⟨(some 150), none, (.p (.mv (.tmp 152))), 0, []⟩])))
(.cond (.tmp 150)
(.seq
(.draw [⟨(some 153), none, (.p (.mv (.tmp 7))), 0, []⟩,
⟨(some 154), none, (.p (.fieldAt 1 (.tmp 3))), 1, []⟩,
⟨(some 155), none, (.r (.load 1 false (.tmp 154))), 2, []⟩,
⟨(some 157), none, (.p (.mv (.tmp 7))), 4, []⟩,
⟨(some 158), none, (.p (.fieldAt 2 (.tmp 3))), 5, []⟩,
⟨(some 159), none, (.r (.load 1 false (.tmp 158))), 6, []⟩,
⟨(some 160), none, (.p (.mnmx false (.tmp 159) [(.c (.int .i64 1))])), 7, []⟩,
⟨(some 163), none, (.p (.fieldAt 1 (.tmp 3))), 10, []⟩,
⟨(some 164), none, (.r (.load 1 false (.tmp 163))), 11, []⟩,
⟨(some 165), none, (.p (.bin .geq (.tmp 164) (.c (.int .i64 1)))), 12, []⟩,
⟨(some 156), none, (.h (.call (.tmp 153) [(.tmp 155)])), 3, [6, 11]⟩,
⟨(some 161), none, (.h (.call (.tmp 157) [(.tmp 160)])), 8, [11]⟩,
⟨(some 162), none, (.p (.bin .add (.tmp 156) (.tmp 161))), 9, []⟩,
⟨(some 166), none, (.p (.mv (.tmp 165))), 13, []⟩,
⟨(some 167), (some (166, true)), (.p (.fieldAt 1 (.tmp 3))), 14, []⟩,
⟨(some 168), (some (166, true)), (.r (.load 1 false (.tmp 167))), 15, []⟩,
⟨(some 169), (some (166, true)), (.p (.bin .leq (.tmp 168) (.c (.int .i64 5000)))), 16, []⟩,
⟨(some 170), none, (.p (.pick (.tmp 166) (.tmp 169) (.c (.bool false)))), 17, []⟩,
⟨(some 171), none, (.p (.mv (.tmp 170))), 18, []⟩,
⟨(some 172), (some (171, true)), (.p (.fieldAt 2 (.tmp 3))), 19, []⟩,
⟨(some 173), (some (171, true)), (.r (.load 1 false (.tmp 172))), 20, []⟩,
⟨(some 174), (some (171, true)), (.p (.bin .geq (.tmp 173) (.c (.int .i64 0)))), 21, []⟩,
⟨(some 175), none, (.p (.pick (.tmp 171) (.tmp 174) (.c (.bool false)))), 22, []⟩,
⟨(some 176), none, (.p (.mv (.tmp 175))), 23, []⟩,
⟨(some 177), (some (176, true)), (.p (.fieldAt 2 (.tmp 3))), 24, []⟩,
⟨(some 178), (some (176, true)), (.r (.load 1 false (.tmp 177))), 25, []⟩,
⟨(some 179), (some (176, true)), (.p (.bin .leq (.tmp 178) (.c (.int .i64 2)))), 26, []⟩,
⟨(some 180), none, (.p (.pick (.tmp 176) (.tmp 179) (.c (.bool false)))), 27, []⟩,
⟨(some 4), none, (.p (.mv (.tmp 162))), 28, []⟩,
⟨(some 5), none, (.p (.mv (.c (.str [])))), 29, []⟩,
⟨(some 6), none, (.p (.mv (.tmp 180))), 30, []⟩])
.ret)
(.seq
(.ops [⟨(some 182), none, (.p (.bin .eql (.tmp 18) (.c (.int .i64 33)))), 0, []⟩,
⟨(some 181), none, (.p (.mv (.tmp 182))), 0, []⟩])
(.cond (.tmp 181)
(.seq
(.draw [⟨(some 183), none, (.p (.mv (.tmp 7))), 0, []⟩,
⟨(some 184), none, (.p (.fieldAt 1 (.tmp 3))), 1, []⟩,
⟨(some 185), none, (.r (.load 1 false (.tmp 184))), 2, []⟩,
⟨(some 187), none, (.p (.fieldAt 1 (.tmp 3))), 4, []⟩,
⟨(some 188), none, (.r (.load 1 false (.tmp 187))), 5, []⟩,
⟨(some 189), none, (.p (.bin .eql (.tmp 188) (.c (.int .i64 0)))), 6, []⟩,
⟨(some 186), none, (.h (.call (.tmp 183) [(.tmp 185)])), 3, [5]⟩,
⟨(some 190), none, (.p (.mv (.tmp 189))), 7, []⟩,
⟨(some 191), (some (190, false)), (.p (.fieldAt 1 (.tmp 3))), 8, []⟩,
⟨(some 192), (some (190, false)), (.r (.load 1 false (.tmp 191))), 9, []⟩,
⟨(some 193), (some (190, false)), (.p (.bin .eql (.tmp 192) (.c (.int .i64 1)))), 10, []⟩,
⟨(some 194), none, (.p (.pick (.tmp 190) (.c (.bool true)) (.tmp 193))), 11, []⟩,
⟨(some 4), none, (.p (.mv (.tmp 186))), 12, []⟩,
⟨(some 5), none, (.p (.mv (.c (.str [])))), 13, []⟩,
⟨(some 6), none, (.p (.mv (.tmp 194))), 14, []⟩])
.ret)
.skip))))))))))
(.seq
(.ops [⟨(some 4), none, (.p (.mv (.c (.str [])))), 0, []⟩,
⟨(some 5), none, (.p (.mv (.c (.str [])))), 0, []⟩,
⟨(some 6), none, (.p (.mv (.c (.bool false)))), 0, []⟩])
.ret))))⟩
theorem c103 : Mir.compF Tryz.prog Tryz.f103 = some g103 := by kernel_rfl
/-- (*scribe/lex.lexer).word$1 -/
def g109 : Mir.Fn := ⟨9, [(.tmp 2)],
(.seq
(.ops [⟨(some 2), none, (.p (.mv (.c (.bool false)))), 0, []⟩])
(.seq
(.ops [⟨(some 3), none, (.p (.mv (.tmp 0))), 0, []⟩,
⟨(some 4), none, (.h (.call (.c (.fn 82 [] [])) [(.tmp 3)])), 0, []⟩,
⟨(some 5), none, (.p (.mv (.tmp 4))), 0, []⟩,
⟨(some 6), (some (5, false)), (.p (.mv (.tmp 0))), 0, []⟩,
⟨(some 7), (some (5, false)), (.h (.call (.c (.fn 80 [] [])) [(.tmp 6)])), 0, []⟩,
⟨(some 8), none, (.p (.pick (.tmp 5) (.c (.bool true)) (.tmp 7))), 0, []⟩,
⟨(some 2), none, (.p (.mv (.tmp 8))), 0, []⟩])
.ret))⟩
theorem c109 : Mir.compF Tryz.prog Tryz.f109 = some g109 := by kernel_rfl
/-- (*strings.Builder).String -/
def g110 : Mir.Fn := ⟨14, [(.tmp 2)],
(.seq
(.ops [⟨(some 2), none, (.p (.mv (.c (.str [])))), 0, []⟩])
(.seq
(.draw [⟨(some 3), none, (.p (.mv (.tmp 0))), 0, []⟩,
⟨(some 4), none, (.p (.nilchk (.tmp 3))), 1, []⟩,
⟨(some 5), none, (.p (.fieldAt 1 (.tmp 4))), 2, []⟩,
⟨(some 6), none, (.r (.load 1 false (.tmp 5))), 3, []⟩,
⟨(some 7), none, (.p (.dataSl (.tmp 6))), 4, []⟩,
⟨(some 8), none, (.p (.mv (.tmp 0))), 5, []⟩,
⟨(some 9), none, (.p (.nilchk (.tmp 8))), 6, []⟩,
⟨(some 10), none, (.p (.fieldAt 1 (.tmp 9))), 7, []⟩,
⟨(some 11), none, (.r (.load 1 false (.tmp 10))), 8, []⟩,
⟨(some 12), none, (.p (.lenSl (.tmp 11))), 9, []⟩,
⟨(some 13), none, (.h (.ustr (.tmp 7) (.tmp 12))), 10, []⟩,
⟨(some 2), none, (.p (.mv (.tmp 13))), 11, []⟩])
.ret))⟩
theorem c110 : Mir.compF Tryz.prog Tryz.f110 = some g110 := by kernel_rfl
/-- (*strings.Builder).WriteString -/
def g111 : Mir.Fn := ⟨19, [(.tmp 4), (.tmp 5)],
(.seq
(.ops [⟨(some 4), none, (.p (.mv (.c (.int .i64 0)))), 0, []⟩,
⟨(some 5), none, (.p (.mv (.c .nilif))), 0, []⟩])
(.seq
(.ops [⟨(some 6), none, (.p (.mv (.tmp 0))), 0, []⟩,
⟨(some 7), none, (.h (.call (.c (.fn 126 [] [])) [(.tmp 6)])), 0, []⟩])
(.seq
(.ops [⟨(some 8), none, (.p (.mv (.tmp 0))), 0, []⟩,
⟨(some 9), none, (.p (.mv (.tmp 0))), 0, []⟩,
⟨(some 10), none, (.p (.nilchk (.tmp 9))), 0, []⟩,
⟨(some 11), none, (.p (.fieldAt 1 (.tmp 10))), 0, []⟩,
⟨(some 12), none, (.r (.load 1 false (.tmp 11))), 0, []⟩,
⟨(some 13), none, (.p (.mv (.tmp 1))), 0, []⟩,
⟨(some 14), none, (.h (.app 1 1 (.tmp 12) (.tmp 13))), 0, []⟩,
⟨(some 15), none, (.p (.nilchk (.tmp 8))), 0, []⟩,
⟨(some 16), none, (.p (.fieldAt 1 (.tmp 15))), 0, []⟩,
⟨none, none, (.h (.store 1 (.tmp 16) (.tmp 14))), 0, []⟩])
(.seq
(.ops [⟨(some 17), none, (.p (.mv (.tmp 1))), 0, []⟩,
⟨(some 18), none, (.p (.lenStr (.tmp 17))), 0, []⟩,
⟨(some 4), none, (.p (.mv (.tmp 18))), 0, []⟩,
⟨(some 5), none, (.p (.mv (.c .nilif))), 0, []⟩])
.ret))))⟩
theorem c111 : Mir.compF Tryz.prog Tryz.f111 = some g111 := by kernel_rfl
/-- (*strings.Builder).WriteByte -/
def g112 : Mir.Fn := ⟨17, [(.tmp 4)],
(.seq
(.ops [⟨(some 4), none, (.p (.mv (.c .nilif))), 0, []⟩])
(.seq
(.ops [⟨(some 5), none, (.p (.mv (.tmp 0))), 0, []⟩,
⟨(some 6), none, (.h (.call (.c (.fn 126 [] [])) [(.tmp 5)])), 0, []⟩])
(.seq
(.ops [⟨(some 7), none, (.p (.mv (.tmp 0))), 0, []⟩,
⟨(some 8), none, (.p (.mv (.tmp 0))), 0, []⟩,
⟨(some 9), none, (.p (.nilchk (.tmp 8))), 0, []⟩,
⟨(some 10), none, (.p (.fieldAt 1 (.tmp 9))), 0, []⟩,
⟨(some 11), none, (.r (.load 1 false (.tmp 10))), 0, []⟩,
⟨(some 12), none, (.p (.mv (.tmp 1))), 0, []⟩,
⟨(some 13), none, (.a (.mkSl [(.int .u8 0)] 1 1 [(0, (1, (.tmp 12)))])), 0, []⟩,
⟨(some 14), none, (.h (.app 1 1 (.tmp 11) (.tmp 13))), 0, []⟩,
⟨(some 15), none, (.p (.nilchk (.tmp 7))), 0, []⟩,
⟨(some 16), none, (.p (.fieldAt 1 (.tmp 15))), 0, []⟩,
⟨none, none, (.h (.store 1 (.tmp 16) (.tmp 14))), 0, []⟩])
(.seq
(.ops [⟨(some 4), none, (.p (.mv (.c .nilif))), 0, []⟩])
.ret))))⟩
theorem c112 : Mir.compF Tryz.prog Tryz.f112 = some g112 := by kernel_rfl
/-- strings.Contains -/
def g113 : Mir.Fn := ⟨9, [(.tmp 4)],
(.seq
(.ops [⟨(some 4), none, (.p (.mv (.c (.bool false)))), 0, []⟩])
(.seq
(.ops [⟨(some 5), none, (.p (.mv (.tmp 0))), 0, []⟩,
⟨(some 6), none, (.p (.mv (.tmp 1))), 0, []⟩,
⟨(some 7), none, (.h (.call (.c (.fn 127 [] [])) [(.tmp 5), (.tmp 6)])), 0, []⟩,
⟨(some 8), none, (.p (.bin .geq (.tmp 7) (.c (.int .i64 0)))), 0, []⟩,
⟨(some 4), none, (.p (.mv (.tmp 8))), 0, []⟩])
.ret))⟩
theorem c113 : Mir.compF Tryz.prog Tryz.f113 = some g113 := by kernel_rfl
/-- strings.IndexByte -/
def g114 : Mir.Fn := ⟨8, [(.tmp 4)],
(.seq
(.ops [⟨(some 4), none, (.p (.mv (.c (.int .i64 0)))), 0, []⟩])
(.seq
(.ops [⟨(some 5), none, (.p (.mv (.tmp 0))), 0, []⟩,
⟨(some 6), none, (.p (.mv (.tmp 1))), 0, []⟩,
⟨(some 7), none, (.h (.call (.c (.fn 128 [] [])) [(.tmp 5), (.tmp 6)])), 0, []⟩,
⟨(some 4), none, (.p (.mv (.tmp 7))), 0, []⟩])
.ret))⟩
theorem c114 : Mir.compF Tryz.prog Tryz.f114 = some g114 := by kernel_rfl
/-- (*scribe/parse.parser).choice -/
def g115 : Mir.Fn := ⟨42, [(.cell 2 4 true)],
(.seq
(.ops [⟨(some 2), none, (.a (.alloc [(.str []), (.str []), (.int .i64 0), .nilsl])), 0, []⟩])
(.seq
(.ops [⟨(some 5), none, (.p (.mv (.tmp 0))), 0, []⟩,
⟨(some 6), none, (.h (.call (.c (.fn 55 [] [])) [(.tmp 5), (.c (.str [40]))])), 0, []⟩])
(.seq
(.ops [⟨(some 7), none, (.p (.mv (.tmp 0))), 0, []⟩,
⟨(some 8), none, (.h (.call (.c (.fn 116 [] [])) [(.tmp 7), (.c (.str [41]))])), 0, []⟩,
⟨(some 9), none, (.p (.mv (.tmp 0))), 0, []⟩,
⟨(some 10), none, (.h (.call (.c (.fn 117 [] [])) [(.tmp 9)])), 0, []⟩,
⟨(some 11), none, (.a (.mkSl [(.str []), (.str []), (.int .i64 0), .nilsl] 4 2 [(0, (4, (.tmp 8))), (4, (4, (.tmp 10)))])), 0, []⟩,
⟨(some 12), none, (.h (.call (.c (.fn 28 [] [])) [(.c (.str [105, 102])), (.tmp 11)])), 0, []⟩,
⟨(some 3), none, (.a (.alloc [(.str []), (.str []), (.int .i64 0), .nilsl])), 0, []⟩,
⟨none, none, (.h (.store 4 (.tmp 3) (.tmp 12))), 0, []⟩])
(.seq
(.ops [⟨(some 13), none, (.p (.mv (.tmp 0))), 0, []⟩,
⟨(some 14), none, (.p (.nilchk (.tmp 13))), 0, []⟩,
⟨(some 15), none, (.p (.fieldAt 1 (.tmp 14))), 0, []⟩,
⟨(some 16), none, (.r (.load 1 false (.tmp 15))), 0, []⟩,
⟨(some 4), none, (.p (.mv (.tmp 16))), 0, []⟩])
(.seq
(.ops [⟨(some 17), none, (.p (.mv (.tmp 0))), 0, []⟩,
⟨(some 18), none, (.h (.call (.c (.fn 56 [] [])) [(.tmp 17)])), 0, []⟩])
(.seq
(.seq
(.ops [⟨(some 19), none, (.p (.mv (.tmp 0))), 0, []⟩,
⟨(some 20), none, (.h (.call (.c (.fn 51 [] [])) [(.tmp 19), (.c (.str [59]))])), 0, []⟩])
(.cond (.tmp 20)
(.ops [⟨(some 21), none, (.p (.mv (.tmp 0))), 0, []⟩,
⟨(some 22), none, (.h (.call (.c (.fn 56 [] [])) [(.tmp 21)])), 0, []⟩])
.skip))
(.seq
(.seq
(.ops [⟨(some 23), none, (.p (.mv (.tmp 0))), 0, []⟩,
⟨(some 24), none, (.h (.call (.c (.fn 51 [] [])) [(.tmp 23), (.c (.str [101, 108, 115, 101]))])), 0, []⟩])
(.cond (.tmp 24)
(.draw [⟨(some 25), none, (.p (.fieldAt 3 (.tmp 3))), 0, []⟩,
⟨(some 26), none, (.r (.load 1 false (.tmp 25))), 1, []⟩,
⟨(some 27), none, (.p (.mv (.tmp 0))), 2, []⟩,
⟨(some 28), none, (.h (.call (.c (.fn 117 [] [])) [(.tmp 27)])), 3, [1]⟩,
⟨(some 29), none, (.a (.mkSl [(.str []), (.str []), (.int .i64 0), .nilsl] 4 1 [(0, (4, (.tmp 28)))])), 4, []⟩,
⟨(some 30), none, (.h (.app 4 64 (.tmp 26) (.tmp 29))), 5, []⟩,
⟨(some 31), none, (.p (.fieldAt 3 (.tmp 3))), 6, []⟩,
⟨none, none, (.h (.store 1 (.tmp 31) (.tmp 30))), 7, []⟩])
(.seq
(.ops [⟨(some 32), none, (.p (.mv (.tmp 0))), 0, []⟩,
⟨(some 33), none, (.p (.nilchk (.tmp 32))), 0, []⟩,
⟨(some 34), none, (.p (.fieldAt 4 (.tmp 33))), 0, []⟩,
⟨(some 35), none, (.r (.load 1 false (.tmp 34))), 0, []⟩,
⟨(some 36), none, (.p (.bin .eql (.tmp 35) (.c (.int .i64 0)))), 0, []⟩])
(.cond (.tmp 36)
(.ops [⟨(some 37), none, (.p (.mv (.tmp 0))), 0, []⟩,
⟨(some 38), none, (.p (.mv (.tmp 4))), 0, []⟩,
⟨(some 39), none, (.p (.nilchk (.tmp 37))), 0, []⟩,
⟨(some 40), none, (.p (.fieldAt 1 (.tmp 39))), 0, []⟩,
⟨none, none, (.h (.store 1 (.tmp 40) (.tmp 38))), 0, []⟩])
.skip))))
(.seq
(.ops [⟨(some 41), none, (.r (.load 4 true (.tmp 3))), 0, []⟩,
⟨none, none, (.h (.store 4 (.tmp 2) (.tmp 41))), 0, []⟩])
.ret))))))))⟩
theorem c115 : Mir.compF Tryz.prog Tryz.f115 = some g115 := by kernel_rfl
/-- (*scribe/parse.parser).inside -/
def g116 : Mir.Fn := ⟨28, [(.cell 4 4 true)],
(.seq
(.ops [⟨(some 4), none, (.a (.alloc [(.str []), (.str []), (.int .i64 0), .nilsl])), 0, []⟩])
(.seq
(.ops [⟨(some 7), none, (.p (.mv (.tmp 0))), 0, []⟩,
⟨(some 8), none, (.p (.nilchk (.tmp 7))), 0, []⟩,
⟨(some 9), none, (.p (.fieldAt 3 (.tmp 8))), 0, []⟩,
⟨(some 10), none, (.r (.load 1 false (.tmp 9))), 0, []⟩,
⟨(some 5), none, (.p (.mv (.tmp 10))), 0, []⟩])
(.seq
(.ops [⟨(some 11), none, (.p (.mv (.tmp 0))), 0, []⟩,
⟨(some 12), none, (.p (.nilchk (.tmp 11))), 0, []⟩,
⟨(some 13), none, (.p (.fieldAt 3 (.tmp 12))), 0, []⟩,
⟨none, none, (.h (.store 1 (.tmp 13) (.c (.bool false)))), 0, []⟩])
(.seq
(.ops [⟨(some 14), none, (.p (.mv (.tmp 0))), 0, []⟩,
⟨(some 15), none, (.h (.call (.c (.fn 56 [] [])) [(.tmp 14)])), 0, []⟩])
(.seq
(.ops [⟨(some 16), none, (.p (.mv (.tmp 0))), 0, []⟩,
⟨(some 17), none, (.h (.call (.c (.fn 57 [] [])) [(.tmp 16)])), 0, []⟩,
⟨(some 6), none, (.a (.alloc [(.str []), (.str []), (.int .i64 0), .nilsl])), 0, []⟩,
⟨none, none, (.h (.store 4 (.tmp 6) (.tmp 17))), 0, []⟩])
(.seq
(.ops [⟨(some 18), none, (.p (.mv (.tmp 0))), 0, []⟩,
⟨(some 19), none, (.h (.call (.c (.fn 56 [] [])) [(.tmp 18)])), 0, []⟩])
(.seq
(.ops [⟨(some 20), none, (.p (.mv (.tmp 0))), 0, []⟩,
⟨(some 21), none, (.p (.mv (.tmp 1))), 0, []⟩,
⟨(some 22), none, (.h (.call (.c (.fn 55 [] [])) [(.tmp 20), (.tmp 21)])), 0, []⟩])
(.seq
(.ops [⟨(some 23), none, (.p (.mv (.tmp 0))), 0, []⟩,
⟨(some 24), none, (.p (.mv (.tmp 5))), 0, []⟩,
⟨(some 25), none, (.p (.nilchk (.tmp 23))), 0, []⟩,
⟨(some 26), none, (.p (.fieldAt 3 (.tmp 25))), 0, []⟩,
⟨none, none, (.h (.store 1 (.tmp 26) (.tmp 24))), 0, []⟩])
(.seq
(.ops [⟨(some 27), none, (.r (.load 4 true (.tmp 6))), 0, []⟩,
⟨none, none, (.h (.store 4 (.tmp 4) (.tmp 27))), 0, []⟩])
.ret)))))))))⟩
theorem c116 : Mir.compF Tryz.prog Tryz.f116 = some g116 := by kernel_rfl
/-- (*scribe/parse.parser).body -/
def g117 : Mir.Fn := ⟨7, [(.cell 2 4 true)],
(.seq
(.ops [⟨(some 2), none, (.a (.alloc [(.str []), (.str []), (.int .i64 0), .nilsl])), 0, []⟩])
(.seq
(.ops [⟨(some 3), none, (.p (.mv (.tmp 0))), 0, []⟩,
⟨(some 4), none, (.h (.call (.c (.fn 56 [] [])) [(.tmp 3)])), 0, []⟩])
(.seq
(.ops [⟨(some 5), none, (.p (.mv (.tmp 0))), 0, []⟩,
⟨(some 6), none, (.h (.call (.c (.fn 90 [] [])) [(.tmp 5)])), 0, []⟩,
⟨none, none, (.h (.store 4 (.tmp 2) (.tmp 6))), 0, []⟩])
.ret)))⟩
theorem c117 : Mir.compF Tryz.prog Tryz.f117 = some g117 := by kernel_rfl
/-- (*scribe/parse.parser).simple -/
def g119 : Mir.Fn := ⟨78, [(.cell 2 4 true)],
(.seq
(.ops [⟨(some 2), none, (.a (.alloc [(.str []), (.str []), (.int .i64 0), .nilsl])), 0, []⟩])
(.seq
(.ops [⟨(some 6), none, (.p (.mv (.tmp 0))), 0, []⟩,
⟨(some 7), none, (.h (.call (.c (.fn 30 [] [])) [(.tmp 6)])), 0, []⟩,
⟨(some 3), none, (.a (.alloc [(.int .i64 0), (.str []), (.int .i64 0)])), 0, []⟩,
⟨none, none, (.h (.store 3 (.tmp 3) (.tmp 7))), 0, []⟩])
(.seq
(.seq
(.ops [⟨(some 8), none, (.p (.fieldAt 0 (.tmp 3))), 0, []⟩,
⟨(some 9), none, (.r (.load 1 false (.tmp 8))), 0, []⟩,
⟨(some 10), none, (.p (.bin .neq (.tmp 9) (.c (.int .i64 7)))), 0, []⟩])
(.cond (.tmp 10)
(.seq
(.ops [⟨(some 11), none, (.p (.mv (.tmp 0))), 0, []⟩,
⟨(some 12), none, (.h (.call (.c (.fn 57 [] [])) [(.tmp 11)])), 0, []⟩,
⟨(some 13), none, (.a (.mkSl [(.str []), (.str []), (.int .i64 0), .nilsl] 4 1 [(0, (4, (.tmp 12)))])), 0, []⟩,
⟨(some 14), none, (.h (.call (.c (.fn 28 [] [])) [(.c (.str [101, 120, 112, 114])), (.tmp 13)])), 0, []⟩,
⟨none, none, (.h (.store 4 (.tmp 2) (.tmp 14))), 0, []⟩])
.ret)
.skip))
(.seq
(.seq
(.ops [⟨(some 15), none, (.p (.fieldAt 1 (.tmp 3))), 0, []⟩,
⟨(some 16), none, (.r (.load 1 false (.tmp 15))), 0, []⟩])
(.block 0 (.seq
(.seq
(.ops [⟨(some 18), none, (.p (.bin .eql (.tmp 16) (.c (.str [98, 114, 101, 97, 107])))), 0, []⟩,
⟨(some 17), none, (.p (.mv (.tmp 18))), 0, []⟩])
(.cond (.tmp 17)
.skip
(.seq
(.ops [⟨(some 19), none, (.p (.bin .eql (.tmp 16) (.c (.str [99, 111, 110, 116, 105, 110, 117, 101])))), 0, []⟩,
⟨(some 17), none, (.p (.mv (.tmp 19))), 0, []⟩])
(.cond (.tmp 17)
.skip
(.ops [⟨(some 20), none, (.p (.bin .eql (.tmp 16) (.c (.str [110, 101, 120, 116])))), 0, []⟩,
⟨(some 17), none, (.p (.mv (.tmp 20))), 0, []⟩])))))
(.cond (.tmp 17)
(.seq
(.ops [⟨(some 21), none, (.p (.mv (.tmp 0))), 0, []⟩,
⟨(some 22), none, (.h (.call (.c (.fn 31 [] [])) [(.tmp 21)])), 0, []⟩])
(.seq
(.ops [⟨(some 23), none, (.p (.fieldAt 1 (.tmp 3))), 0, []⟩,
⟨(some 24), none, (.r (.load 1 false (.tmp 23))), 0, []⟩,
⟨(some 25), none, (.p (.fieldAt 2 (.tmp 3))), 0, []⟩,
⟨(some 26), none, (.r (.load 1 false (.tmp 25))), 0, []⟩,
⟨(some 27), none, (.p (.build [(.str []), (.str []), (.int .i64 0), .nilsl] [(0, (1, (.tmp 24))), (2, (1, (.tmp 26)))])), 0, []⟩,
⟨none, none, (.h (.store 4 (.tmp 2) (.tmp 27))), 0, []⟩])
.ret))
(.seq
(.seq
(.ops [⟨(some 29), none, (.p (.bin .eql (.tmp 16) (.c (.str [101, 120, 105, 116])))), 0, []⟩,
⟨(some 28), none, (.p (.mv (.tmp 29))), 0, []⟩])
(.cond (.tmp 28)
.skip
(.ops [⟨(some 30), none, (.p (.bin .eql (.tmp 16) (.c (.str [114, 101, 116, 117, 114, 110])))), 0, []⟩,
⟨(some 28), none, (.p (.mv (.tmp 30))), 0, []⟩])))
(.cond (.tmp 28)
(.seq
(.ops [⟨(some 31), none, (.p (.mv (.tmp 0))), 0, []⟩,
⟨(some 32), none, (.h (.call (.c (.fn 31 [] [])) [(.tmp 31)])), 0, []⟩])
(.seq
(.ops [⟨(some 33), none, (.p (.fieldAt 1 (.tmp 3))), 0, []⟩,
⟨(some 34), none, (.r (.load 1 false (.tmp 33))), 0, []⟩,
⟨(some 35), none, (.p (.fieldAt 2 (.tmp 3))), 0, []⟩,
⟨(some 36), none, (.r (.load 1 false (.tmp 35))), 0, []⟩,
⟨(some 37), none, (.p (.build [(.str []), (.str []), (.int .i64 0), .nilsl] [(0, (1, (.tmp 34))), (2, (1, (.tmp 36)))])), 0, []⟩,
⟨(some 4), none, (.a (.alloc [(.str []), (.str []), (.int .i64 0), .nilsl])), 0, []⟩,
⟨none, none, (.h (.store 4 (.tmp 4) (.tmp 37))), 0, []⟩])
(.seq
(.seq
(.ops [⟨(some 38), none, (.p (.mv (.tmp 0))), 0, []⟩,
⟨(some 39), none, (.h (.call (.c (.fn 130 [] [])) [(.tmp 38)])), 0, []⟩,
⟨(some 40), none, (.p (.un .not (.tmp 39))), 0, []⟩])
(.cond (.tmp 40)
(.ops [⟨(some 41), none, (.p (.mv (.tmp 0))), 0, []⟩,
⟨(some 42), none, (.h (.call (.c (.fn 57 [] [])) [(.tmp 41)])), 0, []⟩,
⟨(some 43), none, (.a (.mkSl [(.str []), (.str []), (.int .i64 0), .nilsl] 4 1 [(0, (4, (.tmp 42)))])), 0, []⟩,
⟨(some 44), none, (.p (.fieldAt 3 (.tmp 4))), 0, []⟩,
⟨none, none, (.h (.store 1 (.tmp 44) (.tmp 43))), 0, []⟩])
.skip))
(.seq
(.ops [⟨(some 45), none, (.r (.load 4 true (.tmp 4))), 0, []⟩,
⟨none, none, (.h (.store 4 (.tmp 2) (.tmp 45))), 0, []⟩])
.ret))))
(.seq
(.ops [⟨(some 47), none, (.p (.bin .eql (.tmp 16) (.c (.str [100, 101, 108, 101, 116, 101])))), 0, []⟩,
⟨(some 46), none, (.p (.mv (.tmp 47))), 0, []⟩])
(.cond (.tmp 46)
(.seq
(.ops [⟨(some 48), none, (.p (.mv (.tmp 0))), 0, []⟩,
⟨(some 49), none, (.h (.call (.c (.fn 31 [] [])) [(.tmp 48)])), 0, []⟩])
(.seq
(.ops [⟨(some 50), none, (.p (.mv (.tmp 0))), 0, []⟩,
⟨(some 51), none, (.a (.mkSl [(.int .i64 0)] 1 1 [(0, (1, (.c (.int .i64 5))))])), 0, []⟩,
⟨(some 52), none, (.h (.call (.c (.fn 54 [] [])) [(.tmp 50), (.tmp 51)])), 0, []⟩,
⟨(some 5), none, (.a (.alloc [(.int .i64 0), (.str []), (.int .i64 0)])), 0, []⟩,
⟨none, none, (.h (.store 3 (.tmp 5) (.tmp 52))), 0, []⟩])
(.seq
(.seq
(.ops [⟨(some 53), none, (.p (.mv (.tmp 0))), 0, []⟩,
⟨(some 54), none, (.h (.call (.c (.fn 51 [] [])) [(.tmp 53), (.c (.str [91]))])), 0, []⟩])
(.cond (.tmp 54)
(.seq
(.draw [⟨(some 55), none, (.r (.load 3 true (.tmp 5))), 0, []⟩,
⟨(some 56), none, (.p (.mv (.tmp 0))), 1, []⟩,
⟨(some 57), none, (.h (.call (.c (.fn 116 [] [])) [(.tmp 56), (.c (.str [93]))])), 2, [0]⟩,
⟨(some 58), none, (.a (.mkSl [(.str []), (.str []), (.int .i64 0), .nilsl] 4 1 [(0, (4, (.tmp 57)))])), 3, []⟩,
⟨(some 59), none, (.h (.call (.c (.fn 53 [] [])) [(.c (.str [105, 110, 100, 101, 120])), (.tmp 55), (.tmp 58)])), 4, []⟩,
⟨(some 60), none, (.a (.mkSl [(.str []), (.str []), (.int .i64 0), .nilsl] 4 1 [(0, (4, (.tmp 59)))])), 5, []⟩,
⟨(some 61), none, (.h (.call (.c (.fn 28 [] [])) [(.c (.str [100, 101, 108, 101, 116, 101])), (.tmp 60)])), 6, []⟩,
⟨none, none, (.h (.store 4 (.tmp 2) (.tmp 61))), 7, []⟩])
.ret)
.skip))
(.seq
(.ops [⟨(some 62), none, (.r (.load 3 true (.tmp 5))), 0, []⟩,
⟨(some 63), none, (.h (.call (.c (.fn 53 [] [])) [(.c (.str [110, 97, 109, 101])), (.tmp 62), (.c .nilsl)])), 0, []⟩,
⟨(some 64), none, (.a (.mkSl [(.str []), (.str []), (.int .i64 0), .nilsl] 4 1 [(0, (4, (.tmp 63)))])), 0, []⟩,
⟨(some 65), none, (.h (.call (.c (.fn 28 [] [])) [(.c (.str [100, 101, 108, 101, 116, 101])), (.tmp 64)])), 0, []⟩,
⟨none, none, (.h (.store 4 (.tmp 2) (.tmp 65))), 0, []⟩])
.ret))))
(.seq
(.seq
(.ops [⟨(some 67), none, (.p (.bin .eql (.tmp 16) (.c (.str [112, 114, 105, 110, 116])))), 0, []⟩,
⟨(some 66), none, (.p (.mv (.tmp 67))), 0, []⟩])
(.cond (.tmp 66)
.skip
(.ops [⟨(some 68), none, (.p (.bin .eql (.tmp 16) (.c (.str [112, 114, 105, 110, 116, 102])))), 0, []⟩,
⟨(some 66), none, (.p (.mv (.tmp 68))), 0, []⟩])))
(.cond (.tmp 66)
(.seq
(.ops [⟨(some 69), none, (.p (.mv (.tmp 0))), 0, []⟩,
⟨(some 70), none, (.h (.call (.c (.fn 31 [] [])) [(.tmp 69)])), 0, []⟩])
(.seq
(.ops [⟨(some 71), none, (.p (.mv (.tmp 0))), 0, []⟩,
⟨(some 72), none, (.p (.fieldAt 1 (.tmp 3))), 0, []⟩,
⟨(some 73), none, (.r (.load 1 false (.tmp 72))), 0, []⟩,
⟨(some 74), none, (.h (.call (.c (.fn 131 [] [])) [(.tmp 71), (.tmp 73)])), 0, []⟩,
⟨none, none, (.h (.store 4 (.tmp 2) (.tmp 74))), 0, []⟩])
.ret))
.skip))))))))))
(.seq
(.ops [⟨(some 75), none, (.p (.mv (.tmp 0))), 0, []⟩,
⟨(some 76), none, (.h (.call (.c (.fn 58 [] [])) [(.tmp 75)])), 0, []⟩])
(.seq
(.ops [⟨(some 77), none, (.p (.build [(.str []), (.str []), (.int .i64 0), .nilsl] [])), 0, []⟩,
⟨none, none, (.h (.store 4 (.tmp 2) (.tmp 77))), 0, []⟩])
.ret))))))⟩
theorem c119 : Mir.compF Tryz.prog Tryz.f119 = some g119 := by kernel_rfl
/-- (*scribe/parse.parser).end -/
def g120 : Mir.Fn := ⟨17, [],
(.block 0 (.seq
(.seq
(.ops [⟨(some 5), none, (.p (.mv (.tmp 0))), 0, []⟩,
⟨(some 6), none, (.h (.call (.c (.fn 51 [] [])) [(.tmp 5), (.c (.str [59]))])), 0, []⟩,
⟨(some 4), none, (.p (.mv (.tmp 6))), 0, []⟩])
(.cond (.tmp 4)
.skip
(.ops [⟨(some 7), none, (.p (.mv (.tmp 0))), 0, []⟩,
⟨(some 8), none, (.a (.mkSl [(.str [])] 1 1 [(0, (1, (.c (.str [125]))))])), 0, []⟩,
⟨(some 9), none, (.h (.call (.c (.fn 29 [] [])) [(.tmp 7), (.tmp 8)])), 0, []⟩,
⟨(some 4), none, (.p (.mv (.tmp 9))), 0, []⟩])))
(.cond (.tmp 4)
.skip
(.seq
(.ops [⟨(some 11), none, (.p (.mv (.tmp 0))), 0, []⟩,
⟨(some 12), none, (.h (.call (.c (.fn 30 [] [])) [(.tmp 11)])), 0, []⟩,
⟨(some 13), none, (.p (.field 0 1 false (.tmp 12))), 0, []⟩,
⟨(some 14), none, (.p (.bin .eql (.tmp 13) (.c (.int .i64 1)))), 0, []⟩,
⟨(some 10), none, (.p (.mv (.tmp 14))), 0, []⟩])
(.cond (.tmp 10)
(.ops [⟨(some 15), none, (.p (.mv (.tmp 0))), 0, []⟩,
⟨(some 16), none, (.h (.call (.c (.fn 31 [] [])) [(.tmp 15)])), 0, []⟩])
(.ops [⟨(some 2), none, (.p (.mv (.tmp 0))), 0, []⟩,
⟨(some 3), none, (.h (.call (.c (.fn 58 [] [])) [(.tmp 2)])), 0, []⟩]))))))⟩
theorem c120 : Mir.compF Tryz.prog Tryz.f120 = some g120 := by kernel_rfl
/-- slices.Index[[]int,int] -/
def g121 : Mir.Fn := ⟨19, [(.tmp 4)],
(.seq
(.ops [⟨(some 4), none, (.p (.mv (.c (.int .i64 0)))), 0, []⟩])
(.seq
(.seq
(.ops [⟨(some 6), none, (.p (.mv (.tmp 0))), 0, []⟩,
⟨(some 7), none, (.p (.lenSl (.tmp 6))), 0, []⟩,
⟨(some 8), none, (.p (.mv (.c (.int .i64 0)))), 0, []⟩])
(.block 0 (.loop (.seq
(.ops [⟨(some 9), none, (.p (.bin .lss (.tmp 8) (.tmp 7))), 0, []⟩])
(.seq
(.cond (.tmp 9)
.skip
(.exit 0))
(.seq
(.block 1 (.seq
(.ops [⟨(some 10), none, (.p (.mv (.tmp 8))), 0, []⟩,
⟨(some 5), none, (.p (.mv (.tmp 10))), 0, []⟩])
(.seq
(.ops [⟨(some 11), none, (.p (.mv (.tmp 1))), 0, []⟩,
⟨(some 12), none, (.p (.mv (.tmp 0))), 0, []⟩,
⟨(some 13), none, (.p (.mv (.tmp 5))), 0, []⟩,
⟨(some 14), none, (.p (.idxSl 1 (.tmp 12) (.tmp 13))), 0, []⟩,
⟨(some 15), none, (.r (.load 1 false (.tmp 14))), 0, []⟩,
⟨(some 16), none, (.p (.bin .eql (.tmp 11) (.tmp 15))), 0, []⟩])
(.cond (.tmp 16)
(.seq
(.ops [⟨(some 17), none, (.p (.mv (.tmp 5))), 0, []⟩,
⟨(some 4), none, (.p (.mv (.tmp 17))), 0, []⟩])
.ret)
.skip))))
(.ops [⟨(some 18), none, (.p (.bin .add (.tmp 8) (.c (.int .i64 1)))), 0, []⟩,
⟨(some 8), none, (.p (.mv (.tmp 18))), 0, []⟩])))))))
(.seq
(.ops [⟨(some 4), none, (.p (.mv (.c (.int .i64 (-1))))), 0, []⟩])
.ret)))⟩
theorem c121 : Mir.compF Tryz.prog Tryz.f121 = some g121 := by kernel_rfl
/-- (*scribe/parse.parser).chain -/
def g122 : Mir.Fn := ⟨39, [(.cell 8 4 true)],
(.seq
(.ops [⟨(some 8), none, (.a (.alloc [(.str []), (.str []), (.int .i64 0), .nilsl])), 0, []⟩])
(.seq
(.ops [⟨(some 12), none, (.p (.mv (.tmp 1))), 0, []⟩,
⟨(some 13), none, (.h (.call (.tmp 12) [])), 0, []⟩,
⟨(some 9), none, (.a (.alloc [(.str []), (.str []), (.int .i64 0), .nilsl])), 0, []⟩,
⟨none, none, (.h (.store 4 (.tmp 9) (.tmp 13))), 0, []⟩])
(.block 0 (.loop (.block 1 (.seq
(.ops [⟨(some 14), none, (.p (.mv (.tmp 0))), 0, []⟩,
⟨(some 15), none, (.h (.call (.c (.fn 30 [] [])) [(.tmp 14)])), 0, []⟩,
⟨(some 10), none, (.a (.alloc [(.int .i64 0), (.str []), (.int .i64 0)])), 0, []⟩,
⟨none, none, (.h (.store 3 (.tmp 10) (.tmp 15))), 0, []⟩])
(.seq
(.ops [⟨(some 16), none, (.p (.mv (.tmp 3))), 0, []⟩,
⟨(some 17), none, (.p (.fieldAt 1 (.tmp 10))), 0, []⟩,
⟨(some 18), none, (.r (.load 1 false (.tmp 17))), 0, []⟩,
⟨(some 19), none, (.r (.lookup (.one .str) (.str []) false (.tmp 16) (.tmp 18))), 0, []⟩,
⟨(some 11), none, (.p (.mv (.tmp 19))), 0, []⟩])
(.seq
(.seq
(.ops [⟨(some 20), none, (.p (.fieldAt 0 (.tmp 10))), 0, []⟩,
⟨(some 21), none, (.r (.load 1 false (.tmp 20))), 0, []⟩,
⟨(some 22), none, (.p (.bin .neq (.tmp 21) (.c (.int .i64 8)))), 0, []⟩,
⟨(some 23), none, (.p (.mv (.tmp 22))), 0, []⟩,
⟨(some 24), (some (23, false)), (.p (.mv (.tmp 11))), 0, []⟩,
⟨(some 25), (some (23, false)), (.p (.bin .eql (.tmp 24) (.c (.str [])))), 0, []⟩,
⟨(some 26), none, (.p (.pick (.tmp 23) (.c (.bool true)) (.tmp 25))), 0, []⟩])
(.cond (.tmp 26)
(.seq
(.ops [⟨(some 27), none, (.r (.load 4 true (.tmp 9))), 0, []⟩,
⟨none, none, (.h (.store 4 (.tmp 8) (.tmp 27))), 0, []⟩])
.ret)
.skip))
(.seq
(.ops [⟨(some 28), none, (.p (.mv (.tmp 0))), 0, []⟩,
⟨(some 29), none, (.h (.call (.c (.fn 31 [] [])) [(.tmp 28)])), 0, []⟩])
(.seq
(.seq
(.ops [⟨(some 30), none, (.p (.mv (.tmp 2))), 0, []⟩])
(.cond (.tmp 30)
(.ops [⟨(some 31), none, (.p (.mv (.tmp 0))), 0, []⟩,
⟨(some 32), none, (.h (.call (.c (.fn 56 [] [])) [(.tmp 31)])), 0, []⟩])
.skip))
(.draw [⟨(some 33), none, (.p (.mv (.tmp 11))), 0, []⟩,
⟨(some 34), none, (.r (.load 4 true (.tmp 9))), 1, []⟩,
⟨(some 35), none, (.p (.mv (.tmp 1))), 2, []⟩,
⟨(some 36), none, (.h (.call (.tmp 35) [])), 3, [1]⟩,
⟨(some 37), none, (.a (.mkSl [(.str []), (.str []), (.int .i64 0), .nilsl] 4 2 [(0, (4, (.tmp 34))), (4, (4, (.tmp 36)))])), 4, []⟩,
⟨(some 38), none, (.h (.call (.c (.fn 28 [] [])) [(.tmp 33), (.tmp 37)])), 5, []⟩,
⟨none, none, (.h (.store 4 (.tmp 9) (.tmp 38))), 6, []⟩])))))))))))⟩
theorem c122 : Mir.compF Tryz.prog Tryz.f122 = some g122 := by kernel_rfl
/-- (*scribe/parse.parser).and -/
def g123 : Mir.Fn := ⟨9, [(.cell 2 4 true)],
(.seq
(.ops [⟨(some 2), none, (.a (.alloc [(.str []), (.str []), (.int .i64 0), .nilsl])), 0, []⟩])
(.seq
(.ops [⟨(some 3), none, (.p (.mv (.tmp 0))), 0, []⟩,
⟨(some 4), none, (.p (.mv (.tmp 0))), 0, []⟩,
⟨(some 5), none, (.p (.mkFn 132 [(.tmp 4)] [])), 0, []⟩,
⟨(some 6), none, (.a .mkMap), 0, []⟩,
⟨none, none, (.h (.mapUpd (.one .str) (.tmp 6) (.c (.str [38, 38])) (.c (.str [97, 110, 100])))), 0, []⟩,
⟨(some 7), none, (.p (.mv (.tmp 6))), 0, []⟩,
⟨(some 8), none, (.h (.call (.c (.fn 122 [] [])) [(.tmp 3), (.tmp 5), (.c (.bool true)), (.tmp 7)])), 0, []⟩,
⟨none, none, (.h (.store 4 (.tmp 2) (.tmp 8))), 0, []⟩])
.ret))⟩
theorem c123 : Mir.compF Tryz.prog Tryz.f123 = some g123 := by kernel_rfl
/-- (*scribe/code.compiler).replace$1 -/
def g124 : Mir.Fn := ⟨48, [],
(.seq
(.seq
(.ops [⟨(some 7), none, (.r (.load 1 false (.tmp 0))), 0, []⟩,
⟨(some 8), none, (.p (.fieldAt 1 (.tmp 1))), 0, []⟩,
⟨(some 9), none, (.r (.load 1 false (.tmp 8))), 0, []⟩,
⟨(some 10), none, (.h (.call (.c (.fn 41 [] [])) [(.tmp 7), (.tmp 9)])), 0, []⟩,
⟨(some 6), none, (.p (.mv (.tmp 10))), 0, []⟩,
⟨(some 11), none, (.p (.ext (.tmp 6) 0)), 0, []⟩,
⟨(some 12), none, (.p (.ext (.tmp 6) 1)), 0, []⟩,
⟨(some 4), none, (.p (.mv (.tmp 11))), 0, []⟩,
⟨(some 5), none, (.p (.mv (.tmp 12))), 0, []⟩])
(.seq
(.ops [⟨(some 13), none, (.p (.fieldAt 0 (.tmp 1))), 0, []⟩,
⟨(some 14), none, (.r (.load 1 false (.tmp 13))), 0, []⟩])
(.block 0 (.seq
(.ops [⟨(some 22), none, (.p (.bin .eql (.tmp 14) (.c (.str [118, 97, 114])))), 0, []⟩,
⟨(some 21), none, (.p (.mv (.tmp 22))), 0, []⟩])
(.cond (.tmp 21)
(.ops [⟨(some 23), none, (.r (.load 1 false (.tmp 0))), 0, []⟩,
⟨(some 24), none, (.p (.mv (.tmp 4))), 0, []⟩,
⟨(some 25), none, (.p (.mv (.tmp 5))), 0, []⟩,
⟨(some 26), none, (.h (.call (.c (.fn 23 [] [])) [(.tmp 23), (.c (.int .i64 3)), (.tmp 24), (.tmp 25)])), 0, []⟩])
(.seq
(.ops [⟨(some 28), none, (.p (.bin .eql (.tmp 14) (.c (.str [102, 105, 101, 108, 100])))), 0, []⟩,
⟨(some 27), none, (.p (.mv (.tmp 28))), 0, []⟩])
(.cond (.tmp 27)
(.seq
(.ops [⟨(some 29), none, (.r (.load 1 false (.tmp 0))), 0, []⟩,
⟨(some 30), none, (.h (.call (.c (.fn 23 [] [])) [(.tmp 29), (.c (.int .i64 20)), (.c (.int .i64 0)), (.c (.int .i64 0))])), 0, []⟩])
(.ops [⟨(some 31), none, (.r (.load 1 false (.tmp 0))), 0, []⟩,
⟨(some 32), none, (.h (.call (.c (.fn 23 [] [])) [(.tmp 31), (.c (.int .i64 4)), (.c (.int .i64 0)), (.c (.int .i64 0))])), 0, []⟩]))
(.seq
(.ops [⟨(some 15), none, (.r (.load 1 false (.tmp 0))), 0, []⟩,
⟨(some 16), none, (.h (.call (.c (.fn 23 [] [])) [(.tmp 15), (.c (.int .i64 20)), (.c (.int .i64 0)), (.c (.int .i64 0))])), 0, []⟩])
(.ops [⟨(some 17), none, (.r (.load 1 false (.tmp 0))), 0, []⟩,
⟨(some 18), none, (.p (.mv (.tmp 4))), 0, []⟩,
⟨(some 19), none, (.p (.mv (.tmp 5))), 0, []⟩,
⟨(some 20), none, (.h (.call (.c (.fn 23 [] [])) [(.tmp 17), (.c (.int .i64 5)), (.tmp 18), (.tmp 19)])), 0, []⟩])))))))))
(.seq
(.draw [⟨(some 33), none, (.r (.load 1 false (.tmp 0))), 0, []⟩,
⟨(some 34), none, (.p (.fieldAt 3 (.tmp 2))), 1, []⟩,
⟨(some 35), none, (.r (.load 1 false (.tmp 34))), 2, []⟩,
⟨(some 36), none, (.p (.idxSl 4 (.tmp 35) (.c (.int .i64 0)))), 3, []⟩,
⟨(some 37), none, (.r (.load 4 true (.tmp 36))), 4, []⟩,
⟨(some 38), none, (.h (.call (.c (.fn 72 [] [])) [(.tmp 33), (.tmp 37)])), 5, []⟩])
(.seq
(.draw [⟨(some 39), none, (.r (.load 1 false (.tmp 0))), 0, []⟩,
⟨(some 40), none, (.p (.fieldAt 3 (.tmp 2))), 1, []⟩,
⟨(some 41), none, (.r (.load 1 false (.tmp 40))), 2, []⟩,
⟨(some 42), none, (.p (.idxSl 4 (.tmp 41) (.c (.int .i64 1)))), 3, []⟩,
⟨(some 43), none, (.r (.load 4 true (.tmp 42))), 4, []⟩,
⟨(some 44), none, (.h (.call (.c (.fn 36 [] [])) [(.tmp 39), (.tmp 43)])), 5, []⟩])
(.ops [⟨(some 45), none, (.r (.load 1 false (.tmp 0))), 0, []⟩,
⟨(some 46), none, (.r (.load 1 false (.tmp 3))), 0, []⟩,
⟨(some 47), none, (.h (.call (.c (.fn 23 [] [])) [(.tmp 45), (.c (.int .i64 25)), (.tmp 46), (.c (.int .i64 0))])), 0, []⟩]))))⟩
theorem c124 : Mir.compF Tryz.prog Tryz.f124 = some g124 := by kernel_rfl
/-- (*scribe/code.checker).many$1 -/
def g125 : Mir.Fn := ⟨13, [(.tmp 2)],
(.seq
(.ops [⟨(some 2), none, (.p (.mv (.c (.str [])))), 0, []⟩])
(.seq
(.ops [⟨(some 3), none, (.p (.mv (.c (.str [])))), 0, []⟩])
(.seq
(.seq
(.ops [⟨(some 4), none, (.p (.mv (.tmp 0))), 0, []⟩,
⟨(some 5), none, (.p (.mnmx true (.tmp 4) [(.c (.int .i64 0))])), 0, []⟩,
⟨(some 6), none, (.p (.mnmx false (.tmp 5) [(.c (.int .i64 5001))])), 0, []⟩,
⟨(some 7), none, (.p (.mv (.c (.int .i64 0)))), 0, []⟩])
(.block 0 (.loop (.seq
(.ops [⟨(some 8), none, (.p (.bin .lss (.tmp 7) (.tmp 6))), 0, []⟩])
(.seq
(.cond (.tmp 8)
.skip
(.exit 0))
(.seq
(.block 1 (.ops [⟨(some 9), none, (.p (.mv (.tmp 3))), 0, []⟩,
⟨(some 10), none, (.p (.bin .add (.tmp 9) (.c (.str [118])))), 0, []⟩,
⟨(some 3), none, (.p (.mv (.tmp 10))), 0, []⟩]))
(.ops [⟨(some 11), none, (.p (.bin .add (.tmp 7) (.c (.int .i64 1)))), 0, []⟩,
⟨(some 7), none, (.p (.mv (.tmp 11))), 0, []⟩])))))))
(.seq
(.ops [⟨(some 12), none, (.p (.mv (.tmp 3))), 0, []⟩,
⟨(some 2), none, (.p (.mv (.tmp 12))), 0, []⟩])
.ret))))⟩
theorem c125 : Mir.compF Tryz.prog Tryz.f125 = some g125 := by kernel_rfl
/-- (*strings.Builder).copyCheck -/
def g126 : Mir.Fn := ⟨20, [],
(.seq
(.ops [⟨(some 2), none, (.p (.mv (.tmp 0))), 0, []⟩,
⟨(some 3), none, (.p (.nilchk (.tmp 2))), 0, []⟩,
⟨(some 4), none, (.p (.fieldAt 0 (.tmp 3))), 0, []⟩,
⟨(some 5), none, (.r (.load 1 false (.tmp 4))), 0, []⟩,
⟨(some 6), none, (.p (.eq .ptr false (.tmp 5) (.c .nilptr))), 0, []⟩])
(.cond (.tmp 6)
(.ops [⟨(some 7), none, (.p (.mv (.tmp 0))), 0, []⟩,
⟨(some 8), none, (.p (.mv (.tmp 0))), 0, []⟩,
⟨(some 9), none, (.r (.uns (.tmp 8))), 0, []⟩,
⟨(some 10), none, (.p (.mv (.tmp 9))), 0, []⟩,
⟨(some 11), none, (.r (.uns (.tmp 10))), 0, []⟩,
⟨(some 12), none, (.p (.nilchk (.tmp 7))), 0, []⟩,
⟨(some 13), none, (.p (.fieldAt 0 (.tmp 12))), 0, []⟩,
⟨none, none, (.h (.store 1 (.tmp 13) (.tmp 11))), 0, []⟩])
(.seq
(.ops [⟨(some 14), none, (.p (.mv (.tmp 0))), 0, []⟩,
⟨(some 15), none, (.p (.nilchk (.tmp 14))), 0, []⟩,
⟨(some 16), none, (.p (.fieldAt 0 (.tmp 15))), 0, []⟩,
⟨(some 17), none, (.r (.load 1 false (.tmp 16))), 0, []⟩,
⟨(some 18), none, (.p (.mv (.tmp 0))), 0, []⟩,
⟨(some 19), none, (.p (.eq .ptr true (.tmp 17) (.tmp 18))), 0, []⟩])
(.cond (.tmp 19)
(.cond (.c .undef)
.skip
.skip)
.skip))))⟩
theorem c126 : Mir.compF Tryz.prog Tryz.f126 = some g126 := by kernel_rfl
/-- strings.Index -/
def g127 : Mir.Fn := ⟨8, [(.tmp 4)],
(.seq
(.ops [⟨(some 4), none, (.p (.mv (.c (.int .i64 0)))), 0, []⟩])
(.seq
(.ops [⟨(some 5), none, (.p (.mv (.tmp 0))), 0, []⟩,
⟨(some 6), none, (.p (.mv (.tmp 1))), 0, []⟩,
⟨(some 7), none, (.h (.call (.c (.fn 134 [] [])) [(.tmp 5), (.tmp 6)])), 0, []⟩,
⟨(some 4), none, (.p (.mv (.tmp 7))), 0, []⟩])
.ret))⟩
theorem c127 : Mir.compF Tryz.prog Tryz.f127 = some g127 := by kernel_rfl
/-- internal/stringslite.IndexByte -/
def g128 : Mir.Fn := ⟨8, [(.tmp 4)],
(.seq
(.ops [⟨(some 4), none, (.p (.mv (.c (.int .i64 0)))), 0, []⟩])
(.seq
(.ops [⟨(some 5), none, (.p (.mv (.tmp 0))), 0, []⟩,
⟨(some 6), none, (.p (.mv (.tmp 1))), 0, []⟩,
⟨(some 7), none, (.p (.idxByte (.tmp 5) (.tmp 6))), 0, []⟩,
⟨(some 4), none, (.p (.mv (.tmp 7))), 0, []⟩])
.ret))⟩
theorem c128 : Mir.compF Tryz.prog Tryz.f128 = some g128 := by kernel_rfl
/-- (*scribe/parse.parser).over -/
def g130 : Mir.Fn := ⟨18, [(.tmp 2)],
(.seq
(.ops [⟨(some 2), none, (.p (.mv (.c (.bool false)))), 0, []⟩])
(.seq
(.ops [⟨(some 3), none, (.p (.mv (.tmp 0))), 0, []⟩,
⟨(some 4), none, (.a (.mkSl [(.str [])] 1 3 [(0, (1, (.c (.str [59])))), (1, (1, (.c (.str [125])))), (2, (1, (.c (.str [41]))))])), 0, []⟩,
⟨(some 5), none, (.h (.call (.c (.fn 29 [] [])) [(.tmp 3), (.tmp 4)])), 0, []⟩,
⟨(some 6), none, (.p (.mv (.tmp 5))), 0, []⟩,
⟨(some 7), (some (6, false)), (.p (.mv (.tmp 0))), 0, []⟩,
⟨(some 8), (some (6, false)), (.h (.call (.c (.fn 30 [] [])) [(.tmp 7)])), 0, []⟩,
⟨(some 9), (some (6, false)), (.p (.field 0 1 false (.tmp 8))), 0, []⟩,
⟨(some 10), (some (6, false)), (.p (.bin .eql (.tmp 9) (.c (.int .i64 1)))), 0, []⟩,
⟨(some 11), none, (.p (.pick (.tmp 6) (.c (.bool true)) (.tmp 10))), 0, []⟩,
⟨(some 12), none, (.p (.mv (.tmp 11))), 0, []⟩,
⟨(some 13), (some (12, false)), (.p (.mv (.tmp 0))), 0, []⟩,
⟨(some 14), (some (12, false)), (.h (.call (.c (.fn 30 [] [])) [(.tmp 13)])), 0, []⟩,
⟨(some 15), (some (12, false)), (.p (.field 0 1 false (.tmp 14))), 0, []⟩,
⟨(some 16), (some (12, false)), (.p (.bin .eql (.tmp 15) (.c (.int .i64 0)))), 0, []⟩,
⟨(some 17), none, (.p (.pick (.tmp 12) (.c (.bool true)) (.tmp 16))), 0, []⟩,
⟨(some 2), none, (.p (.mv (.tmp 17))), 0, []⟩])
.ret))⟩
theorem c130 : Mir.compF Tryz.prog Tryz.f130 = some g130 := by kernel_rfl
/-- (*scribe/parse.parser).in -/
def g132 : Mir.Fn := ⟨15, [(.cell 2 4 true)],
(.seq
(.ops [⟨(some 2), none, (.a (.alloc [(.str []), (.str []), (.int .i64 0), .nilsl])), 0, []⟩])
(.seq
(.ops [⟨(some 4), none, (.p (.mv (.tmp 0))), 0, []⟩,
⟨(some 5), none, (.h (.call (.c (.fn 139 [] [])) [(.tmp 4)])), 0, []⟩,
⟨(some 3), none, (.a (.alloc [(.str []), (.str []), (.int .i64 0), .nilsl])), 0, []⟩,
⟨none, none, (.h (.store 4 (.tmp 3) (.tmp 5))), 0, []⟩])
(.seq
(.block 0 (.loop (.seq
(.seq
(.ops [⟨(some 6), none, (.p (.mv (.tmp 0))), 0, []⟩,
⟨(some 7), none, (.h (.call (.c (.fn 51 [] [])) [(.tmp 6), (.c (.str [105, 110]))])), 0, []⟩])
(.cond (.tmp 7)
.skip
(.exit 0)))
(.block 1 (.draw [⟨(some 8), none, (.p (.mv (.tmp 0))), 0, []⟩,
⟨(some 9), none, (.a (.mkSl [(.int .i64 0)] 1 1 [(0, (1, (.c (.int .i64 5))))])), 1, []⟩,
⟨(some 11), none, (.r (.load 4 true (.tmp 3))), 3, []⟩,
⟨(some 10), none, (.h (.call (.c (.fn 54 [] [])) [(.tmp 8), (.tmp 9)])), 2, [3]⟩,
⟨(some 12), none, (.a (.mkSl [(.str []), (.str []), (.int .i64 0), .nilsl] 4 1 [(0, (4, (.tmp 11)))])), 4, []⟩,
⟨(some 13), none, (.h (.call (.c (.fn 53 [] [])) [(.c (.str [105, 110])), (.tmp 10), (.tmp 12)])), 5, []⟩,
⟨none, none, (.h (.store 4 (.tmp 3) (.tmp 13))), 6, []⟩])))))
(.seq
(.ops [⟨(some 14), none, (.r (.load 4 true (.tmp 3))), 0, []⟩,
⟨none, none, (.h (.store 4 (.tmp 2) (.tmp 14))), 0, []⟩])
.ret))))⟩
theorem c132 : Mir.compF Tryz.prog Tryz.f132 = some g132 := by kernel_rfl
end Go.Proofs.YtipnnfmgecbefaaGreatDoor
