/- The mirror's code of the seat's functions; printed by KPrint. -/
import Derived.Test.YtijipnkdabdioaaG1
namespace Go.Proofs.Ytijipnkdabdioaa
/-- slices.heapSortOrdered[string] -/
def g70 : Mir.Fn := ⟨56, [],
(.seq
(.ops [⟨(some 11), none, (.p (.mv (.tmp 1))), 0, []⟩,
⟨(some 6), none, (.p (.mv (.tmp 11))), 0, []⟩])
(.seq
(.ops [⟨(some 7), none, (.p (.mv (.c (.int .i64 0)))), 0, []⟩])
(.seq
(.ops [⟨(some 12), none, (.p (.mv (.tmp 2))), 0, []⟩,
⟨(some 13), none, (.p (.mv (.tmp 1))), 0, []⟩,
⟨(some 14), none, (.p (.bin .sub (.tmp 12) (.tmp 13))), 0, []⟩,
⟨(some 8), none, (.p (.mv (.tmp 14))), 0, []⟩])
(.seq
(.seq
(.ops [⟨(some 15), none, (.p (.mv (.tmp 8))), 0, []⟩,
⟨(some 16), none, (.p (.bin .sub (.tmp 15) (.c (.int .i64 1)))), 0, []⟩,
⟨(some 17), none, (.p (.bin .quo (.tmp 16) (.c (.int .i64 2)))), 0, []⟩,
⟨(some 9), none, (.p (.mv (.tmp 17))), 0, []⟩])
(.block 0 (.loop (.seq
(.seq
(.ops [⟨(some 18), none, (.p (.mv (.tmp 9))), 0, []⟩,
⟨(some 19), none, (.p (.bin .geq (.tmp 18) (.c (.int .i64 0)))), 0, []⟩])
(.cond (.tmp 19)
.skip
(.exit 0)))
(.seq
(.block 1 (.ops [⟨(some 22), none, (.p (.mv (.tmp 0))), 0, []⟩,
⟨(some 23), none, (.p (.mv (.tmp 9))), 0, []⟩,
⟨(some 24), none, (.p (.mv (.tmp 8))), 0, []⟩,
⟨(some 25), none, (.p (.mv (.tmp 6))), 0, []⟩,
⟨(some 26), none, (.h (.call (.c (.fn 80 [] [])) [(.tmp 22), (.tmp 23), (.tmp 24), (.tmp 25)])), 0, []⟩]))
(.ops [⟨(some 20), none, (.p (.mv (.tmp 9))), 0, []⟩,
⟨(some 21), none, (.p (.bin .sub (.tmp 20) (.c (.int .i64 1)))), 0, []⟩,
⟨(some 9), none, (.p (.mv (.tmp 21))), 0, []⟩]))))))
(.seq
(.ops [⟨(some 27), none, (.p (.mv (.tmp 8))), 0, []⟩,
⟨(some 28), none, (.p (.bin .sub (.tmp 27) (.c (.int .i64 1)))), 0, []⟩,
⟨(some 10), none, (.p (.mv (.tmp 28))), 0, []⟩])
(.block 2 (.loop (.seq
(.seq
(.ops [⟨(some 29), none, (.p (.mv (.tmp 10))), 0, []⟩,
⟨(some 30), none, (.p (.bin .geq (.tmp 29) (.c (.int .i64 0)))), 0, []⟩])
(.cond (.tmp 30)
.skip
(.exit 2)))
(.seq
(.block 3 (.seq
(.draw [⟨(some 33), none, (.p (.mv (.tmp 0))), 0, []⟩,
⟨(some 34), none, (.p (.mv (.tmp 6))), 1, []⟩,
⟨(some 35), none, (.p (.mv (.tmp 0))), 2, []⟩,
⟨(some 36), none, (.p (.mv (.tmp 6))), 3, []⟩,
⟨(some 37), none, (.p (.mv (.tmp 10))), 4, []⟩,
⟨(some 38), none, (.p (.bin .add (.tmp 36) (.tmp 37))), 5, []⟩,
⟨(some 39), none, (.p (.mv (.tmp 0))), 6, []⟩,
⟨(some 40), none, (.p (.mv (.tmp 6))), 7, []⟩,
⟨(some 41), none, (.p (.mv (.tmp 10))), 8, []⟩,
⟨(some 42), none, (.p (.bin .add (.tmp 40) (.tmp 41))), 9, []⟩,
⟨(some 43), none, (.p (.idxSl 1 (.tmp 39) (.tmp 42))), 10, []⟩,
⟨(some 44), none, (.r (.load 1 false (.tmp 43))), 11, []⟩,
⟨(some 45), none, (.p (.mv (.tmp 0))), 12, []⟩,
⟨(some 46), none, (.p (.mv (.tmp 6))), 13, []⟩,
⟨(some 47), none, (.p (.idxSl 1 (.tmp 45) (.tmp 46))), 14, []⟩,
⟨(some 48), none, (.r (.load 1 false (.tmp 47))), 15, []⟩,
⟨(some 49), none, (.p (.idxSl 1 (.tmp 33) (.tmp 34))), 16, []⟩,
⟨none, none, (.h (.store 1 (.tmp 49) (.tmp 44))), 17, []⟩,
⟨(some 50), none, (.p (.idxSl 1 (.tmp 35) (.tmp 38))), 18, []⟩,
⟨none, none, (.h (.store 1 (.tmp 50) (.tmp 48))), 19, []⟩])
(.ops [⟨(some 51), none, (.p (.mv (.tmp 0))), 0, []⟩,
⟨(some 52), none, (.p (.mv (.tmp 7))), 0, []⟩,
⟨(some 53), none, (.p (.mv (.tmp 10))), 0, []⟩,
⟨(some 54), none, (.p (.mv (.tmp 6))), 0, []⟩,
⟨(some 55), none, (.h (.call (.c (.fn 80 [] [])) [(.tmp 51), (.tmp 52), (.tmp 53), (.tmp 54)])), 0, []⟩])))
(.ops [⟨(some 31), none, (.p (.mv (.tmp 10))), 0, []⟩,
⟨(some 32), none, (.p (.bin .sub (.tmp 31) (.c (.int .i64 1)))), 0, []⟩,
⟨(some 10), none, (.p (.mv (.tmp 32))), 0, []⟩]))))))))))⟩
theorem c70 : Mir.compF Try.prog Try.f70 = some g70 := by kernel_rfl
/-- slices.breakPatternsOrdered[string] -/
def g71 : Mir.Fn := ⟨65, [],
(.seq
(.ops [⟨(some 11), none, (.p (.mv (.tmp 2))), 0, []⟩,
⟨(some 12), none, (.p (.mv (.tmp 1))), 0, []⟩,
⟨(some 13), none, (.p (.bin .sub (.tmp 11) (.tmp 12))), 0, []⟩,
⟨(some 6), none, (.p (.mv (.tmp 13))), 0, []⟩])
(.seq
(.ops [⟨(some 14), none, (.p (.mv (.tmp 6))), 0, []⟩,
⟨(some 15), none, (.p (.bin .geq (.tmp 14) (.c (.int .i64 8)))), 0, []⟩])
(.cond (.tmp 15)
(.seq
(.ops [⟨(some 16), none, (.p (.mv (.tmp 6))), 0, []⟩,
⟨(some 17), none, (.p (.convInt .u64 (.tmp 16))), 0, []⟩,
⟨(some 7), none, (.a (.alloc [(.int .u64 0)])), 0, []⟩,
⟨none, none, (.h (.store 1 (.tmp 7) (.tmp 17))), 0, []⟩])
(.seq
(.ops [⟨(some 18), none, (.p (.mv (.tmp 6))), 0, []⟩,
⟨(some 19), none, (.h (.call (.c (.fn 81 [] [])) [(.tmp 18)])), 0, []⟩,
⟨(some 8), none, (.p (.mv (.tmp 19))), 0, []⟩])
(.seq
(.ops [⟨(some 20), none, (.p (.mv (.tmp 1))), 0, []⟩,
⟨(some 21), none, (.p (.mv (.tmp 6))), 0, []⟩,
⟨(some 22), none, (.p (.bin .quo (.tmp 21) (.c (.int .i64 4)))), 0, []⟩,
⟨(some 23), none, (.p (.bin .mul (.tmp 22) (.c (.int .i64 2)))), 0, []⟩,
⟨(some 24), none, (.p (.bin .add (.tmp 20) (.tmp 23))), 0, []⟩,
⟨(some 25), none, (.p (.bin .sub (.tmp 24) (.c (.int .i64 1)))), 0, []⟩,
⟨(some 9), none, (.p (.mv (.tmp 25))), 0, []⟩])
(.block 0 (.loop (.seq
(.seq
(.ops [⟨(some 26), none, (.p (.mv (.tmp 9))), 0, []⟩,
⟨(some 27), none, (.p (.mv (.tmp 1))), 0, []⟩,
⟨(some 28), none, (.p (.mv (.tmp 6))), 0, []⟩,
⟨(some 29), none, (.p (.bin .quo (.tmp 28) (.c (.int .i64 4)))), 0, []⟩,
⟨(some 30), none, (.p (.bin .mul (.tmp 29) (.c (.int .i64 2)))), 0, []⟩,
⟨(some 31), none, (.p (.bin .add (.tmp 27) (.tmp 30))), 0, []⟩,
⟨(some 32), none, (.p (.bin .add (.tmp 31) (.c (.int .i64 1)))), 0, []⟩,
⟨(some 33), none, (.p (.bin .leq (.tmp 26) (.tmp 32))), 0, []⟩])
(.cond (.tmp 33)
.skip
(.exit 0)))
(.seq
(.block 1 (.seq
(.ops [⟨(some 36), none, (.h (.call (.c (.fn 82 [] [])) [(.tmp 7)])), 0, []⟩,
⟨(some 37), none, (.p (.mv (.tmp 8))), 0, []⟩,
⟨(some 38), none, (.p (.bin .sub (.tmp 37) (.c (.int .u64 1)))), 0, []⟩,
⟨(some 39), none, (.p (.bin .and (.tmp 36) (.tmp 38))), 0, []⟩,
⟨(some 40), none, (.p (.convInt .i64 (.tmp 39))), 0, []⟩,
⟨(some 10), none, (.p (.mv (.tmp 40))), 0, []⟩])
(.seq
(.seq
(.ops [⟨(some 41), none, (.p (.mv (.tmp 10))), 0, []⟩,
⟨(some 42), none, (.p (.mv (.tmp 6))), 0, []⟩,
⟨(some 43), none, (.p (.bin .geq (.tmp 41) (.tmp 42))), 0, []⟩])
(.cond (.tmp 43)
(.ops [⟨(some 44), none, (.p (.mv (.tmp 10))), 0, []⟩,
⟨(some 45), none, (.p (.mv (.tmp 6))), 0, []⟩,
⟨(some 46), none, (.p (.bin .sub (.tmp 44) (.tmp 45))), 0, []⟩,
⟨(some 10), none, (.p (.mv (.tmp 46))), 0, []⟩])
.skip))
(.draw [⟨(some 47), none, (.p (.mv (.tmp 0))), 0, []⟩,
⟨(some 48), none, (.p (.mv (.tmp 9))), 1, []⟩,
⟨(some 49), none, (.p (.mv (.tmp 0))), 2, []⟩,
⟨(some 50), none, (.p (.mv (.tmp 1))), 3, []⟩,
⟨(some 51), none, (.p (.mv (.tmp 10))), 4, []⟩,
⟨(some 52), none, (.p (.bin .add (.tmp 50) (.tmp 51))), 5, []⟩,
⟨(some 53), none, (.p (.mv (.tmp 0))), 6, []⟩,
⟨(some 54), none, (.p (.mv (.tmp 1))), 7, []⟩,
⟨(some 55), none, (.p (.mv (.tmp 10))), 8, []⟩,
⟨(some 56), none, (.p (.bin .add (.tmp 54) (.tmp 55))), 9, []⟩,
⟨(some 57), none, (.p (.idxSl 1 (.tmp 53) (.tmp 56))), 10, []⟩,
⟨(some 58), none, (.r (.load 1 false (.tmp 57))), 11, []⟩,
⟨(some 59), none, (.p (.mv (.tmp 0))), 12, []⟩,
⟨(some 60), none, (.p (.mv (.tmp 9))), 13, []⟩,
⟨(some 61), none, (.p (.idxSl 1 (.tmp 59) (.tmp 60))), 14, []⟩,
⟨(some 62), none, (.r (.load 1 false (.tmp 61))), 15, []⟩,
⟨(some 63), none, (.p (.idxSl 1 (.tmp 47) (.tmp 48))), 16, []⟩,
⟨none, none, (.h (.store 1 (.tmp 63) (.tmp 58))), 17, []⟩,
⟨(some 64), none, (.p (.idxSl 1 (.tmp 49) (.tmp 52))), 18, []⟩,
⟨none, none, (.h (.store 1 (.tmp 64) (.tmp 62))), 19, []⟩]))))
(.ops [⟨(some 34), none, (.p (.mv (.tmp 9))), 0, []⟩,
⟨(some 35), none, (.p (.bin .add (.tmp 34) (.c (.int .i64 1)))), 0, []⟩,
⟨(some 9), none, (.p (.mv (.tmp 35))), 0, []⟩]))))))))
.skip)))⟩
theorem c71 : Mir.compF Try.prog Try.f71 = some g71 := by kernel_rfl
/-- slices.choosePivotOrdered[string] -/
def g72 : Mir.Fn := ⟨57, [(.tmp 6), (.tmp 7)],
(.seq
(.ops [⟨(some 6), none, (.p (.mv (.c (.int .i64 0)))), 0, []⟩,
⟨(some 7), none, (.p (.mv (.c (.int .i64 0)))), 0, []⟩])
(.seq
(.ops [⟨(some 13), none, (.p (.mv (.tmp 2))), 0, []⟩,
⟨(some 14), none, (.p (.mv (.tmp 1))), 0, []⟩,
⟨(some 15), none, (.p (.bin .sub (.tmp 13) (.tmp 14))), 0, []⟩,
⟨(some 8), none, (.p (.mv (.tmp 15))), 0, []⟩])
(.seq
(.ops [⟨(some 9), none, (.a (.alloc [(.int .i64 0)])), 0, []⟩])
(.seq
(.ops [⟨(some 16), none, (.p (.mv (.tmp 1))), 0, []⟩,
⟨(some 17), none, (.p (.mv (.tmp 8))), 0, []⟩,
⟨(some 18), none, (.p (.bin .quo (.tmp 17) (.c (.int .i64 4)))), 0, []⟩,
⟨(some 19), none, (.p (.bin .mul (.tmp 18) (.c (.int .i64 1)))), 0, []⟩,
⟨(some 20), none, (.p (.bin .add (.tmp 16) (.tmp 19))), 0, []⟩,
⟨(some 10), none, (.p (.mv (.tmp 20))), 0, []⟩])
(.seq
(.ops [⟨(some 21), none, (.p (.mv (.tmp 1))), 0, []⟩,
⟨(some 22), none, (.p (.mv (.tmp 8))), 0, []⟩,
⟨(some 23), none, (.p (.bin .quo (.tmp 22) (.c (.int .i64 4)))), 0, []⟩,
⟨(some 24), none, (.p (.bin .mul (.tmp 23) (.c (.int .i64 2)))), 0, []⟩,
⟨(some 25), none, (.p (.bin .add (.tmp 21) (.tmp 24))), 0, []⟩,
⟨(some 11), none, (.p (.mv (.tmp 25))), 0, []⟩])
(.seq
(.ops [⟨(some 26), none, (.p (.mv (.tmp 1))), 0, []⟩,
⟨(some 27), none, (.p (.mv (.tmp 8))), 0, []⟩,
⟨(some 28), none, (.p (.bin .quo (.tmp 27) (.c (.int .i64 4)))), 0, []⟩,
⟨(some 29), none, (.p (.bin .mul (.tmp 28) (.c (.int .i64 3)))), 0, []⟩,
⟨(some 30), none, (.p (.bin .add (.tmp 26) (.tmp 29))), 0, []⟩,
⟨(some 12), none, (.p (.mv (.tmp 30))), 0, []⟩])
(.seq
(.seq
(.ops [⟨(some 31), none, (.p (.mv (.tmp 8))), 0, []⟩,
⟨(some 32), none, (.p (.bin .geq (.tmp 31) (.c (.int .i64 8)))), 0, []⟩])
(.cond (.tmp 32)
(.seq
(.seq
(.ops [⟨(some 33), none, (.p (.mv (.tmp 8))), 0, []⟩,
⟨(some 34), none, (.p (.bin .geq (.tmp 33) (.c (.int .i64 50)))), 0, []⟩])
(.cond (.tmp 34)
(.seq
(.ops [⟨(some 35), none, (.p (.mv (.tmp 0))), 0, []⟩,
⟨(some 36), none, (.p (.mv (.tmp 10))), 0, []⟩,
⟨(some 37), none, (.h (.call (.c (.fn 83 [] [])) [(.tmp 35), (.tmp 36), (.tmp 9)])), 0, []⟩,
⟨(some 10), none, (.p (.mv (.tmp 37))), 0, []⟩])
(.seq
(.ops [⟨(some 38), none, (.p (.mv (.tmp 0))), 0, []⟩,
⟨(some 39), none, (.p (.mv (.tmp 11))), 0, []⟩,
⟨(some 40), none, (.h (.call (.c (.fn 83 [] [])) [(.tmp 38), (.tmp 39), (.tmp 9)])), 0, []⟩,
⟨(some 11), none, (.p (.mv (.tmp 40))), 0, []⟩])
(.ops [⟨(some 41), none, (.p (.mv (.tmp 0))), 0, []⟩,
⟨(some 42), none, (.p (.mv (.tmp 12))), 0, []⟩,
⟨(some 43), none, (.h (.call (.c (.fn 83 [] [])) [(.tmp 41), (.tmp 42), (.tmp 9)])), 0, []⟩,
⟨(some 12), none, (.p (.mv (.tmp 43))), 0, []⟩])))
.skip))
(.ops [⟨(some 44), none, (.p (.mv (.tmp 0))), 0, []⟩,
⟨(some 45), none, (.p (.mv (.tmp 10))), 0, []⟩,
⟨(some 46), none, (.p (.mv (.tmp 11))), 0, []⟩,
⟨(some 47), none, (.p (.mv (.tmp 12))), 0, []⟩,
⟨(some 48), none, (.h (.call (.c (.fn 84 [] [])) [(.tmp 44), (.tmp 45), (.tmp 46), (.tmp 47), (.tmp 9)])), 0, []⟩,
⟨(some 11), none, (.p (.mv (.tmp 48))), 0, []⟩]))
.skip))
(.seq
(.ops [⟨(some 49), none, (.r (.load 1 false (.tmp 9))), 0, []⟩])
(.block 0 (.seq
(.ops [⟨(some 52), none, (.p (.bin .eql (.tmp 49) (.c (.int .i64 0)))), 0, []⟩,
⟨(some 51), none, (.p (.mv (.tmp 52))), 0, []⟩])
(.cond (.tmp 51)
(.seq
(.ops [⟨(some 53), none, (.p (.mv (.tmp 11))), 0, []⟩,
⟨(some 6), none, (.p (.mv (.tmp 53))), 0, []⟩,
⟨(some 7), none, (.p (.mv (.c (.int .i64 1)))), 0, []⟩])
.ret)
(.seq
(.ops [⟨(some 55), none, (.p (.bin .eql (.tmp 49) (.c (.int .i64 12)))), 0, []⟩,
⟨(some 54), none, (.p (.mv (.tmp 55))), 0, []⟩])
(.cond (.tmp 54)
(.seq
(.ops [⟨(some 56), none, (.p (.mv (.tmp 11))), 0, []⟩,
⟨(some 6), none, (.p (.mv (.tmp 56))), 0, []⟩,
⟨(some 7), none, (.p (.mv (.c (.int .i64 2)))), 0, []⟩])
.ret)
(.seq
(.ops [⟨(some 50), none, (.p (.mv (.tmp 11))), 0, []⟩,
⟨(some 6), none, (.p (.mv (.tmp 50))), 0, []⟩,
⟨(some 7), none, (.p (.mv (.c (.int .i64 0)))), 0, []⟩])
.ret))))))))))))))⟩
theorem c72 : Mir.compF Try.prog Try.f72 = some g72 := by kernel_rfl
/-- slices.reverseRangeOrdered[string] -/
def g73 : Mir.Fn := ⟨32, [],
(.seq
(.ops [⟨(some 8), none, (.p (.mv (.tmp 1))), 0, []⟩,
⟨(some 6), none, (.p (.mv (.tmp 8))), 0, []⟩])
(.seq
(.ops [⟨(some 9), none, (.p (.mv (.tmp 2))), 0, []⟩,
⟨(some 10), none, (.p (.bin .sub (.tmp 9) (.c (.int .i64 1)))), 0, []⟩,
⟨(some 7), none, (.p (.mv (.tmp 10))), 0, []⟩])
(.block 0 (.loop (.seq
(.seq
(.ops [⟨(some 11), none, (.p (.mv (.tmp 6))), 0, []⟩,
⟨(some 12), none, (.p (.mv (.tmp 7))), 0, []⟩,
⟨(some 13), none, (.p (.bin .lss (.tmp 11) (.tmp 12))), 0, []⟩])
(.cond (.tmp 13)
.skip
(.exit 0)))
(.block 1 (.seq
(.draw [⟨(some 14), none, (.p (.mv (.tmp 0))), 0, []⟩,
⟨(some 15), none, (.p (.mv (.tmp 6))), 1, []⟩,
⟨(some 16), none, (.p (.mv (.tmp 0))), 2, []⟩,
⟨(some 17), none, (.p (.mv (.tmp 7))), 3, []⟩,
⟨(some 18), none, (.p (.mv (.tmp 0))), 4, []⟩,
⟨(some 19), none, (.p (.mv (.tmp 7))), 5, []⟩,
⟨(some 20), none, (.p (.idxSl 1 (.tmp 18) (.tmp 19))), 6, []⟩,
⟨(some 21), none, (.r (.load 1 false (.tmp 20))), 7, []⟩,
⟨(some 22), none, (.p (.mv (.tmp 0))), 8, []⟩,
⟨(some 23), none, (.p (.mv (.tmp 6))), 9, []⟩,
⟨(some 24), none, (.p (.idxSl 1 (.tmp 22) (.tmp 23))), 10, []⟩,
⟨(some 25), none, (.r (.load 1 false (.tmp 24))), 11, []⟩,
⟨(some 26), none, (.p (.idxSl 1 (.tmp 14) (.tmp 15))), 12, []⟩,
⟨none, none, (.h (.store 1 (.tmp 26) (.tmp 21))), 13, []⟩,
⟨(some 27), none, (.p (.idxSl 1 (.tmp 16) (.tmp 17))), 14, []⟩,
⟨none, none, (.h (.store 1 (.tmp 27) (.tmp 25))), 15, []⟩])
(.seq
(.ops [⟨(some 28), none, (.p (.mv (.tmp 6))), 0, []⟩,
⟨(some 29), none, (.p (.bin .add (.tmp 28) (.c (.int .i64 1)))), 0, []⟩,
⟨(some 6), none, (.p (.mv (.tmp 29))), 0, []⟩])
(.ops [⟨(some 30), none, (.p (.mv (.tmp 7))), 0, []⟩,
⟨(some 31), none, (.p (.bin .sub (.tmp 30) (.c (.int .i64 1)))), 0, []⟩,
⟨(some 7), none, (.p (.mv (.tmp 31))), 0, []⟩])))))))))⟩
theorem c73 : Mir.compF Try.prog Try.f73 = some g73 := by kernel_rfl
/-- slices.partialInsertionSortOrdered[string] -/
def g74 : Mir.Fn := ⟨133, [(.tmp 6)],
(.seq
(.ops [⟨(some 6), none, (.p (.mv (.c (.bool false)))), 0, []⟩])
(.seq
(.ops [⟨(some 11), none, (.p (.mv (.tmp 1))), 0, []⟩,
⟨(some 12), none, (.p (.bin .add (.tmp 11) (.c (.int .i64 1)))), 0, []⟩,
⟨(some 7), none, (.p (.mv (.tmp 12))), 0, []⟩])
(.seq
(.seq
(.ops [⟨(some 8), none, (.p (.mv (.c (.int .i64 0)))), 0, []⟩])
(.block 0 (.loop (.seq
(.seq
(.ops [⟨(some 13), none, (.p (.mv (.tmp 8))), 0, []⟩,
⟨(some 14), none, (.p (.bin .lss (.tmp 13) (.c (.int .i64 5)))), 0, []⟩])
(.cond (.tmp 14)
.skip
(.exit 0)))
(.seq
(.block 1 (.seq
(.block 2 (.loop (.seq
(.seq
(.draw [⟨(some 17), none, (.p (.mv (.tmp 7))), 0, []⟩,
⟨(some 18), none, (.p (.mv (.tmp 2))), 1, []⟩,
⟨(some 19), none, (.p (.bin .lss (.tmp 17) (.tmp 18))), 2, []⟩,
⟨(some 20), none, (.p (.mv (.tmp 19))), 3, []⟩,
⟨(some 21), (some (20, true)), (.p (.mv (.tmp 0))), 4, []⟩,
⟨(some 22), (some (20, true)), (.p (.mv (.tmp 7))), 5, []⟩,
⟨(some 23), (some (20, true)), (.p (.idxSl 1 (.tmp 21) (.tmp 22))), 6, []⟩,
⟨(some 24), (some (20, true)), (.r (.load 1 false (.tmp 23))), 7, []⟩,
⟨(some 25), (some (20, true)), (.p (.mv (.tmp 0))), 8, []⟩,
⟨(some 26), (some (20, true)), (.p (.mv (.tmp 7))), 9, []⟩,
⟨(some 27), (some (20, true)), (.p (.bin .sub (.tmp 26) (.c (.int .i64 1)))), 10, []⟩,
⟨(some 28), (some (20, true)), (.p (.idxSl 1 (.tmp 25) (.tmp 27))), 11, []⟩,
⟨(some 29), (some (20, true)), (.r (.load 1 false (.tmp 28))), 12, []⟩,
⟨(some 30), (some (20, true)), (.h (.call (.c (.fn 75 [] [])) [(.tmp 24), (.tmp 29)])), 13, []⟩,
⟨(some 31), (some (20, true)), (.p (.un .not (.tmp 30))), 14, []⟩,
⟨(some 32), none, (.p (.pick (.tmp 20) (.tmp 31) (.c (.bool false)))), 15, []⟩])
(.cond (.tmp 32)
.skip
(.exit 2)))
(.block 3 (.ops [⟨(some 33), none, (.p (.mv (.tmp 7))), 0, []⟩,
⟨(some 34), none, (.p (.bin .add (.tmp 33) (.c (.int .i64 1)))), 0, []⟩,
⟨(some 7), none, (.p (.mv (.tmp 34))), 0, []⟩])))))
(.seq
(.seq
(.ops [⟨(some 35), none, (.p (.mv (.tmp 7))), 0, []⟩,
⟨(some 36), none, (.p (.mv (.tmp 2))), 0, []⟩,
⟨(some 37), none, (.p (.bin .eql (.tmp 35) (.tmp 36))), 0, []⟩])
(.cond (.tmp 37)
(.seq
(.ops [⟨(some 6), none, (.p (.mv (.c (.bool true)))), 0, []⟩])
.ret)
.skip))
(.seq
(.seq
(.ops [⟨(some 38), none, (.p (.mv (.tmp 2))), 0, []⟩,
⟨(some 39), none, (.p (.mv (.tmp 1))), 0, []⟩,
⟨(some 40), none, (.p (.bin .sub (.tmp 38) (.tmp 39))), 0, []⟩,
⟨(some 41), none, (.p (.bin .lss (.tmp 40) (.c (.int .i64 50)))), 0, []⟩])
(.cond (.tmp 41)
(.seq
(.ops [⟨(some 6), none, (.p (.mv (.c (.bool false)))), 0, []⟩])
.ret)
.skip))
(.seq
(.draw [⟨(some 42), none, (.p (.mv (.tmp 0))), 0, []⟩,
⟨(some 43), none, (.p (.mv (.tmp 7))), 1, []⟩,
⟨(some 44), none, (.p (.mv (.tmp 0))), 2, []⟩,
⟨(some 45), none, (.p (.mv (.tmp 7))), 3, []⟩,
⟨(some 46), none, (.p (.bin .sub (.tmp 45) (.c (.int .i64 1)))), 4, []⟩,
⟨(some 47), none, (.p (.mv (.tmp 0))), 5, []⟩,
⟨(some 48), none, (.p (.mv (.tmp 7))), 6, []⟩,
⟨(some 49), none, (.p (.bin .sub (.tmp 48) (.c (.int .i64 1)))), 7, []⟩,
⟨(some 50), none, (.p (.idxSl 1 (.tmp 47) (.tmp 49))), 8, []⟩,
⟨(some 51), none, (.r (.load 1 false (.tmp 50))), 9, []⟩,
⟨(some 52), none, (.p (.mv (.tmp 0))), 10, []⟩,
⟨(some 53), none, (.p (.mv (.tmp 7))), 11, []⟩,
⟨(some 54), none, (.p (.idxSl 1 (.tmp 52) (.tmp 53))), 12, []⟩,
⟨(some 55), none, (.r (.load 1 false (.tmp 54))), 13, []⟩,
⟨(some 56), none, (.p (.idxSl 1 (.tmp 42) (.tmp 43))), 14, []⟩,
⟨none, none, (.h (.store 1 (.tmp 56) (.tmp 51))), 15, []⟩,
⟨(some 57), none, (.p (.idxSl 1 (.tmp 44) (.tmp 46))), 16, []⟩,
⟨none, none, (.h (.store 1 (.tmp 57) (.tmp 55))), 17, []⟩])
(.seq
(.seq
(.ops [⟨(some 58), none, (.p (.mv (.tmp 7))), 0, []⟩,
⟨(some 59), none, (.p (.mv (.tmp 1))), 0, []⟩,
⟨(some 60), none, (.p (.bin .sub (.tmp 58) (.tmp 59))), 0, []⟩,
⟨(some 61), none, (.p (.bin .geq (.tmp 60) (.c (.int .i64 2)))), 0, []⟩])
(.cond (.tmp 61)
(.seq
(.ops [⟨(some 62), none, (.p (.mv (.tmp 7))), 0, []⟩,
⟨(some 63), none, (.p (.bin .sub (.tmp 62) (.c (.int .i64 1)))), 0, []⟩,
⟨(some 9), none, (.p (.mv (.tmp 63))), 0, []⟩])
(.block 4 (.loop (.seq
(.seq
(.ops [⟨(some 64), none, (.p (.mv (.tmp 9))), 0, []⟩,
⟨(some 65), none, (.p (.bin .geq (.tmp 64) (.c (.int .i64 1)))), 0, []⟩])
(.cond (.tmp 65)
.skip
(.exit 4)))
(.seq
(.block 5 (.seq
(.seq
(.draw [⟨(some 68), none, (.p (.mv (.tmp 0))), 0, []⟩,
⟨(some 69), none, (.p (.mv (.tmp 9))), 1, []⟩,
⟨(some 70), none, (.p (.idxSl 1 (.tmp 68) (.tmp 69))), 2, []⟩,
⟨(some 71), none, (.r (.load 1 false (.tmp 70))), 3, []⟩,
⟨(some 72), none, (.p (.mv (.tmp 0))), 4, []⟩,
⟨(some 73), none, (.p (.mv (.tmp 9))), 5, []⟩,
⟨(some 74), none, (.p (.bin .sub (.tmp 73) (.c (.int .i64 1)))), 6, []⟩,
⟨(some 75), none, (.p (.idxSl 1 (.tmp 72) (.tmp 74))), 7, []⟩,
⟨(some 76), none, (.r (.load 1 false (.tmp 75))), 8, []⟩,
⟨(some 77), none, (.h (.call (.c (.fn 75 [] [])) [(.tmp 71), (.tmp 76)])), 9, []⟩,
⟨(some 78), none, (.p (.un .not (.tmp 77))), 10, []⟩])
(.cond (.tmp 78)
(.exit 4)
.skip))
(.draw [⟨(some 79), none, (.p (.mv (.tmp 0))), 0, []⟩,
⟨(some 80), none, (.p (.mv (.tmp 9))), 1, []⟩,
⟨(some 81), none, (.p (.mv (.tmp 0))), 2, []⟩,
⟨(some 82), none, (.p (.mv (.tmp 9))), 3, []⟩,
⟨(some 83), none, (.p (.bin .sub (.tmp 82) (.c (.int .i64 1)))), 4, []⟩,
⟨(some 84), none, (.p (.mv (.tmp 0))), 5, []⟩,
⟨(some 85), none, (.p (.mv (.tmp 9))), 6, []⟩,
⟨(some 86), none, (.p (.bin .sub (.tmp 85) (.c (.int .i64 1)))), 7, []⟩,
⟨(some 87), none, (.p (.idxSl 1 (.tmp 84) (.tmp 86))), 8, []⟩,
⟨(some 88), none, (.r (.load 1 false (.tmp 87))), 9, []⟩,
⟨(some 89), none, (.p (.mv (.tmp 0))), 10, []⟩,
⟨(some 90), none, (.p (.mv (.tmp 9))), 11, []⟩,
⟨(some 91), none, (.p (.idxSl 1 (.tmp 89) (.tmp 90))), 12, []⟩,
⟨(some 92), none, (.r (.load 1 false (.tmp 91))), 13, []⟩,
⟨(some 93), none, (.p (.idxSl 1 (.tmp 79) (.tmp 80))), 14, []⟩,
⟨none, none, (.h (.store 1 (.tmp 93) (.tmp 88))), 15, []⟩,
⟨(some 94), none, (.p (.idxSl 1 (.tmp 81) (.tmp 83))), 16, []⟩,
⟨none, none, (.h (.store 1 (.tmp 94) (.tmp 92))), 17, []⟩])))
(.ops [⟨(some 66), none, (.p (.mv (.tmp 9))), 0, []⟩,
⟨(some 67), none, (.p (.bin .sub (.tmp 66) (.c (.int .i64 1)))), 0, []⟩,
⟨(some 9), none, (.p (.mv (.tmp 67))), 0, []⟩]))))))
.skip))
(.seq
(.ops [⟨(some 95), none, (.p (.mv (.tmp 2))), 0, []⟩,
⟨(some 96), none, (.p (.mv (.tmp 7))), 0, []⟩,
⟨(some 97), none, (.p (.bin .sub (.tmp 95) (.tmp 96))), 0, []⟩,
⟨(some 98), none, (.p (.bin .geq (.tmp 97) (.c (.int .i64 2)))), 0, []⟩])
(.cond (.tmp 98)
(.seq
(.ops [⟨(some 99), none, (.p (.mv (.tmp 7))), 0, []⟩,
⟨(some 100), none, (.p (.bin .add (.tmp 99) (.c (.int .i64 1)))), 0, []⟩,
⟨(some 10), none, (.p (.mv (.tmp 100))), 0, []⟩])
(.block 6 (.loop (.seq
(.seq
(.ops [⟨(some 101), none, (.p (.mv (.tmp 10))), 0, []⟩,
⟨(some 102), none, (.p (.mv (.tmp 2))), 0, []⟩,
⟨(some 103), none, (.p (.bin .lss (.tmp 101) (.tmp 102))), 0, []⟩])
(.cond (.tmp 103)
.skip
(.exit 6)))
(.seq
(.block 7 (.seq
(.seq
(.draw [⟨(some 106), none, (.p (.mv (.tmp 0))), 0, []⟩,
⟨(some 107), none, (.p (.mv (.tmp 10))), 1, []⟩,
⟨(some 108), none, (.p (.idxSl 1 (.tmp 106) (.tmp 107))), 2, []⟩,
⟨(some 109), none, (.r (.load 1 false (.tmp 108))), 3, []⟩,
⟨(some 110), none, (.p (.mv (.tmp 0))), 4, []⟩,
⟨(some 111), none, (.p (.mv (.tmp 10))), 5, []⟩,
⟨(some 112), none, (.p (.bin .sub (.tmp 111) (.c (.int .i64 1)))), 6, []⟩,
⟨(some 113), none, (.p (.idxSl 1 (.tmp 110) (.tmp 112))), 7, []⟩,
⟨(some 114), none, (.r (.load 1 false (.tmp 113))), 8, []⟩,
⟨(some 115), none, (.h (.call (.c (.fn 75 [] [])) [(.tmp 109), (.tmp 114)])), 9, []⟩,
⟨(some 116), none, (.p (.un .not (.tmp 115))), 10, []⟩])
(.cond (.tmp 116)
(.exit 6)
.skip))
(.draw [⟨(some 117), none, (.p (.mv (.tmp 0))), 0, []⟩,
⟨(some 118), none, (.p (.mv (.tmp 10))), 1, []⟩,
⟨(some 119), none, (.p (.mv (.tmp 0))), 2, []⟩,
⟨(some 120), none, (.p (.mv (.tmp 10))), 3, []⟩,
⟨(some 121), none, (.p (.bin .sub (.tmp 120) (.c (.int .i64 1)))), 4, []⟩,
⟨(some 122), none, (.p (.mv (.tmp 0))), 5, []⟩,
⟨(some 123), none, (.p (.mv (.tmp 10))), 6, []⟩,
⟨(some 124), none, (.p (.bin .sub (.tmp 123) (.c (.int .i64 1)))), 7, []⟩,
⟨(some 125), none, (.p (.idxSl 1 (.tmp 122) (.tmp 124))), 8, []⟩,
⟨(some 126), none, (.r (.load 1 false (.tmp 125))), 9, []⟩,
⟨(some 127), none, (.p (.mv (.tmp 0))), 10, []⟩,
⟨(some 128), none, (.p (.mv (.tmp 10))), 11, []⟩,
⟨(some 129), none, (.p (.idxSl 1 (.tmp 127) (.tmp 128))), 12, []⟩,
⟨(some 130), none, (.r (.load 1 false (.tmp 129))), 13, []⟩,
⟨(some 131), none, (.p (.idxSl 1 (.tmp 117) (.tmp 118))), 14, []⟩,
⟨none, none, (.h (.store 1 (.tmp 131) (.tmp 126))), 15, []⟩,
⟨(some 132), none, (.p (.idxSl 1 (.tmp 119) (.tmp 121))), 16, []⟩,
⟨none, none, (.h (.store 1 (.tmp 132) (.tmp 130))), 17, []⟩])))
(.ops [⟨(some 104), none, (.p (.mv (.tmp 10))), 0, []⟩,
⟨(some 105), none, (.p (.bin .add (.tmp 104) (.c (.int .i64 1)))), 0, []⟩,
⟨(some 10), none, (.p (.mv (.tmp 105))), 0, []⟩]))))))
.skip))))))))
(.ops [⟨(some 15), none, (.p (.mv (.tmp 8))), 0, []⟩,
⟨(some 16), none, (.p (.bin .add (.tmp 15) (.c (.int .i64 1)))), 0, []⟩,
⟨(some 8), none, (.p (.mv (.tmp 16))), 0, []⟩]))))))
(.seq
(.ops [⟨(some 6), none, (.p (.mv (.c (.bool false)))), 0, []⟩])
.ret))))⟩
theorem c74 : Mir.compF Try.prog Try.f74 = some g74 := by kernel_rfl
/-- cmp.Less[string] -/
def g75 : Mir.Fn := ⟨17, [(.tmp 4)],
(.seq
(.ops [⟨(some 4), none, (.p (.mv (.c (.bool false)))), 0, []⟩])
(.seq
(.ops [⟨(some 5), none, (.p (.mv (.tmp 0))), 0, []⟩,
⟨(some 6), none, (.h (.call (.c (.fn 85 [] [])) [(.tmp 5)])), 0, []⟩,
⟨(some 7), none, (.p (.mv (.tmp 6))), 0, []⟩,
⟨(some 8), (some (7, true)), (.p (.mv (.tmp 1))), 0, []⟩,
⟨(some 9), (some (7, true)), (.h (.call (.c (.fn 85 [] [])) [(.tmp 8)])), 0, []⟩,
⟨(some 10), (some (7, true)), (.p (.un .not (.tmp 9))), 0, []⟩,
⟨(some 11), none, (.p (.pick (.tmp 7) (.tmp 10) (.c (.bool false)))), 0, []⟩,
⟨(some 12), none, (.p (.mv (.tmp 11))), 0, []⟩,
⟨(some 13), (some (12, false)), (.p (.mv (.tmp 0))), 0, []⟩,
⟨(some 14), (some (12, false)), (.p (.mv (.tmp 1))), 0, []⟩,
⟨(some 15), (some (12, false)), (.p (.bin .lss (.tmp 13) (.tmp 14))), 0, []⟩,
⟨(some 16), none, (.p (.pick (.tmp 12) (.c (.bool true)) (.tmp 15))), 0, []⟩,
⟨(some 4), none, (.p (.mv (.tmp 16))), 0, []⟩])
.ret))⟩
theorem c75 : Mir.compF Try.prog Try.f75 = some g75 := by kernel_rfl
/-- slices.partitionEqualOrdered[string] -/
def g76 : Mir.Fn := ⟨84, [(.tmp 8)],
(.seq
(.ops [⟨(some 8), none, (.p (.mv (.c (.int .i64 0)))), 0, []⟩])
(.seq
(.draw [⟨(some 11), none, (.p (.mv (.tmp 0))), 0, []⟩,
⟨(some 12), none, (.p (.mv (.tmp 1))), 1, []⟩,
⟨(some 13), none, (.p (.mv (.tmp 0))), 2, []⟩,
⟨(some 14), none, (.p (.mv (.tmp 3))), 3, []⟩,
⟨(some 15), none, (.p (.mv (.tmp 0))), 4, []⟩,
⟨(some 16), none, (.p (.mv (.tmp 3))), 5, []⟩,
⟨(some 17), none, (.p (.idxSl 1 (.tmp 15) (.tmp 16))), 6, []⟩,
⟨(some 18), none, (.r (.load 1 false (.tmp 17))), 7, []⟩,
⟨(some 19), none, (.p (.mv (.tmp 0))), 8, []⟩,
⟨(some 20), none, (.p (.mv (.tmp 1))), 9, []⟩,
⟨(some 21), none, (.p (.idxSl 1 (.tmp 19) (.tmp 20))), 10, []⟩,
⟨(some 22), none, (.r (.load 1 false (.tmp 21))), 11, []⟩,
⟨(some 23), none, (.p (.idxSl 1 (.tmp 11) (.tmp 12))), 12, []⟩,
⟨none, none, (.h (.store 1 (.tmp 23) (.tmp 18))), 13, []⟩,
⟨(some 24), none, (.p (.idxSl 1 (.tmp 13) (.tmp 14))), 14, []⟩,
⟨none, none, (.h (.store 1 (.tmp 24) (.tmp 22))), 15, []⟩])
(.seq
(.ops [⟨(some 25), none, (.p (.mv (.tmp 1))), 0, []⟩,
⟨(some 26), none, (.p (.bin .add (.tmp 25) (.c (.int .i64 1)))), 0, []⟩,
⟨(some 27), none, (.p (.mv (.tmp 2))), 0, []⟩,
⟨(some 28), none, (.p (.bin .sub (.tmp 27) (.c (.int .i64 1)))), 0, []⟩,
⟨(some 9), none, (.p (.mv (.tmp 26))), 0, []⟩,
⟨(some 10), none, (.p (.mv (.tmp 28))), 0, []⟩])
(.seq
(.block 0 (.loop (.block 1 (.seq
(.block 2 (.loop (.seq
(.seq
(.draw [⟨(some 29), none, (.p (.mv (.tmp 9))), 0, []⟩,
⟨(some 30), none, (.p (.mv (.tmp 10))), 1, []⟩,
⟨(some 31), none, (.p (.bin .leq (.tmp 29) (.tmp 30))), 2, []⟩,
⟨(some 32), none, (.p (.mv (.tmp 31))), 3, []⟩,
⟨(some 33), (some (32, true)), (.p (.mv (.tmp 0))), 4, []⟩,
⟨(some 34), (some (32, true)), (.p (.mv (.tmp 1))), 5, []⟩,
⟨(some 35), (some (32, true)), (.p (.idxSl 1 (.tmp 33) (.tmp 34))), 6, []⟩,
⟨(some 36), (some (32, true)), (.r (.load 1 false (.tmp 35))), 7, []⟩,
⟨(some 37), (some (32, true)), (.p (.mv (.tmp 0))), 8, []⟩,
⟨(some 38), (some (32, true)), (.p (.mv (.tmp 9))), 9, []⟩,
⟨(some 39), (some (32, true)), (.p (.idxSl 1 (.tmp 37) (.tmp 38))), 10, []⟩,
⟨(some 40), (some (32, true)), (.r (.load 1 false (.tmp 39))), 11, []⟩,
⟨(some 41), (some (32, true)), (.h (.call (.c (.fn 75 [] [])) [(.tmp 36), (.tmp 40)])), 12, []⟩,
⟨(some 42), (some (32, true)), (.p (.un .not (.tmp 41))), 13, []⟩,
⟨(some 43), none, (.p (.pick (.tmp 32) (.tmp 42) (.c (.bool false)))), 14, []⟩])
(.cond (.tmp 43)
.skip
(.exit 2)))
(.block 3 (.ops [⟨(some 44), none, (.p (.mv (.tmp 9))), 0, []⟩,
⟨(some 45), none, (.p (.bin .add (.tmp 44) (.c (.int .i64 1)))), 0, []⟩,
⟨(some 9), none, (.p (.mv (.tmp 45))), 0, []⟩])))))
(.seq
(.block 4 (.loop (.seq
(.seq
(.draw [⟨(some 46), none, (.p (.mv (.tmp 9))), 0, []⟩,
⟨(some 47), none, (.p (.mv (.tmp 10))), 1, []⟩,
⟨(some 48), none, (.p (.bin .leq (.tmp 46) (.tmp 47))), 2, []⟩,
⟨(some 49), none, (.p (.mv (.tmp 48))), 3, []⟩,
⟨(some 50), (some (49, true)), (.p (.mv (.tmp 0))), 4, []⟩,
⟨(some 51), (some (49, true)), (.p (.mv (.tmp 1))), 5, []⟩,
⟨(some 52), (some (49, true)), (.p (.idxSl 1 (.tmp 50) (.tmp 51))), 6, []⟩,
⟨(some 53), (some (49, true)), (.r (.load 1 false (.tmp 52))), 7, []⟩,
⟨(some 54), (some (49, true)), (.p (.mv (.tmp 0))), 8, []⟩,
⟨(some 55), (some (49, true)), (.p (.mv (.tmp 10))), 9, []⟩,
⟨(some 56), (some (49, true)), (.p (.idxSl 1 (.tmp 54) (.tmp 55))), 10, []⟩,
⟨(some 57), (some (49, true)), (.r (.load 1 false (.tmp 56))), 11, []⟩,
⟨(some 58), (some (49, true)), (.h (.call (.c (.fn 75 [] [])) [(.tmp 53), (.tmp 57)])), 12, []⟩,
⟨(some 59), none, (.p (.pick (.tmp 49) (.tmp 58) (.c (.bool false)))), 13, []⟩])
(.cond (.tmp 59)
.skip
(.exit 4)))
(.block 5 (.ops [⟨(some 60), none, (.p (.mv (.tmp 10))), 0, []⟩,
⟨(some 61), none, (.p (.bin .sub (.tmp 60) (.c (.int .i64 1)))), 0, []⟩,
⟨(some 10), none, (.p (.mv (.tmp 61))), 0, []⟩])))))
(.seq
(.seq
(.ops [⟨(some 62), none, (.p (.mv (.tmp 9))), 0, []⟩,
⟨(some 63), none, (.p (.mv (.tmp 10))), 0, []⟩,
⟨(some 64), none, (.p (.bin .gtr (.tmp 62) (.tmp 63))), 0, []⟩])
(.cond (.tmp 64)
(.exit 0)
.skip))
(.seq
(.draw [⟨(some 65), none, (.p (.mv (.tmp 0))), 0, []⟩,
⟨(some 66), none, (.p (.mv (.tmp 9))), 1, []⟩,
⟨(some 67), none, (.p (.mv (.tmp 0))), 2, []⟩,
⟨(some 68), none, (.p (.mv (.tmp 10))), 3, []⟩,
⟨(some 69), none, (.p (.mv (.tmp 0))), 4, []⟩,
⟨(some 70), none, (.p (.mv (.tmp 10))), 5, []⟩,
⟨(some 71), none, (.p (.idxSl 1 (.tmp 69) (.tmp 70))), 6, []⟩,
⟨(some 72), none, (.r (.load 1 false (.tmp 71))), 7, []⟩,
⟨(some 73), none, (.p (.mv (.tmp 0))), 8, []⟩,
⟨(some 74), none, (.p (.mv (.tmp 9))), 9, []⟩,
⟨(some 75), none, (.p (.idxSl 1 (.tmp 73) (.tmp 74))), 10, []⟩,
⟨(some 76), none, (.r (.load 1 false (.tmp 75))), 11, []⟩,
⟨(some 77), none, (.p (.idxSl 1 (.tmp 65) (.tmp 66))), 12, []⟩,
⟨none, none, (.h (.store 1 (.tmp 77) (.tmp 72))), 13, []⟩,
⟨(some 78), none, (.p (.idxSl 1 (.tmp 67) (.tmp 68))), 14, []⟩,
⟨none, none, (.h (.store 1 (.tmp 78) (.tmp 76))), 15, []⟩])
(.seq
(.ops [⟨(some 79), none, (.p (.mv (.tmp 9))), 0, []⟩,
⟨(some 80), none, (.p (.bin .add (.tmp 79) (.c (.int .i64 1)))), 0, []⟩,
⟨(some 9), none, (.p (.mv (.tmp 80))), 0, []⟩])
(.ops [⟨(some 81), none, (.p (.mv (.tmp 10))), 0, []⟩,
⟨(some 82), none, (.p (.bin .sub (.tmp 81) (.c (.int .i64 1)))), 0, []⟩,
⟨(some 10), none, (.p (.mv (.tmp 82))), 0, []⟩])))))))))
(.seq
(.ops [⟨(some 83), none, (.p (.mv (.tmp 9))), 0, []⟩,
⟨(some 8), none, (.p (.mv (.tmp 83))), 0, []⟩])
.ret)))))⟩
theorem c76 : Mir.compF Try.prog Try.f76 = some g76 := by kernel_rfl
/-- slices.partitionOrdered[string] -/
def g77 : Mir.Fn := ⟨168, [(.tmp 8), (.tmp 9)],
(.seq
(.ops [⟨(some 8), none, (.p (.mv (.c (.int .i64 0)))), 0, []⟩,
⟨(some 9), none, (.p (.mv (.c (.bool false)))), 0, []⟩])
(.seq
(.draw [⟨(some 12), none, (.p (.mv (.tmp 0))), 0, []⟩,
⟨(some 13), none, (.p (.mv (.tmp 1))), 1, []⟩,
⟨(some 14), none, (.p (.mv (.tmp 0))), 2, []⟩,
⟨(some 15), none, (.p (.mv (.tmp 3))), 3, []⟩,
⟨(some 16), none, (.p (.mv (.tmp 0))), 4, []⟩,
⟨(some 17), none, (.p (.mv (.tmp 3))), 5, []⟩,
⟨(some 18), none, (.p (.idxSl 1 (.tmp 16) (.tmp 17))), 6, []⟩,
⟨(some 19), none, (.r (.load 1 false (.tmp 18))), 7, []⟩,
⟨(some 20), none, (.p (.mv (.tmp 0))), 8, []⟩,
⟨(some 21), none, (.p (.mv (.tmp 1))), 9, []⟩,
⟨(some 22), none, (.p (.idxSl 1 (.tmp 20) (.tmp 21))), 10, []⟩,
⟨(some 23), none, (.r (.load 1 false (.tmp 22))), 11, []⟩,
⟨(some 24), none, (.p (.idxSl 1 (.tmp 12) (.tmp 13))), 12, []⟩,
⟨none, none, (.h (.store 1 (.tmp 24) (.tmp 19))), 13, []⟩,
⟨(some 25), none, (.p (.idxSl 1 (.tmp 14) (.tmp 15))), 14, []⟩,
⟨none, none, (.h (.store 1 (.tmp 25) (.tmp 23))), 15, []⟩])
(.seq
(.ops [⟨(some 26), none, (.p (.mv (.tmp 1))), 0, []⟩,
⟨(some 27), none, (.p (.bin .add (.tmp 26) (.c (.int .i64 1)))), 0, []⟩,
⟨(some 28), none, (.p (.mv (.tmp 2))), 0, []⟩,
⟨(some 29), none, (.p (.bin .sub (.tmp 28) (.c (.int .i64 1)))), 0, []⟩,
⟨(some 10), none, (.p (.mv (.tmp 27))), 0, []⟩,
⟨(some 11), none, (.p (.mv (.tmp 29))), 0, []⟩])
(.seq
(.block 0 (.loop (.seq
(.seq
(.draw [⟨(some 30), none, (.p (.mv (.tmp 10))), 0, []⟩,
⟨(some 31), none, (.p (.mv (.tmp 11))), 1, []⟩,
⟨(some 32), none, (.p (.bin .leq (.tmp 30) (.tmp 31))), 2, []⟩,
⟨(some 33), none, (.p (.mv (.tmp 32))), 3, []⟩,
⟨(some 34), (some (33, true)), (.p (.mv (.tmp 0))), 4, []⟩,
⟨(some 35), (some (33, true)), (.p (.mv (.tmp 10))), 5, []⟩,
⟨(some 36), (some (33, true)), (.p (.idxSl 1 (.tmp 34) (.tmp 35))), 6, []⟩,
⟨(some 37), (some (33, true)), (.r (.load 1 false (.tmp 36))), 7, []⟩,
⟨(some 38), (some (33, true)), (.p (.mv (.tmp 0))), 8, []⟩,
⟨(some 39), (some (33, true)), (.p (.mv (.tmp 1))), 9, []⟩,
⟨(some 40), (some (33, true)), (.p (.idxSl 1 (.tmp 38) (.tmp 39))), 10, []⟩,
⟨(some 41), (some (33, true)), (.r (.load 1 false (.tmp 40))), 11, []⟩,
⟨(some 42), (some (33, true)), (.h (.call (.c (.fn 75 [] [])) [(.tmp 37), (.tmp 41)])), 12, []⟩,
⟨(some 43), none, (.p (.pick (.tmp 33) (.tmp 42) (.c (.bool false)))), 13, []⟩])
(.cond (.tmp 43)
.skip
(.exit 0)))
(.block 1 (.ops [⟨(some 44), none, (.p (.mv (.tmp 10))), 0, []⟩,
⟨(some 45), none, (.p (.bin .add (.tmp 44) (.c (.int .i64 1)))), 0, []⟩,
⟨(some 10), none, (.p (.mv (.tmp 45))), 0, []⟩])))))
(.seq
(.block 2 (.loop (.seq
(.seq
(.draw [⟨(some 46), none, (.p (.mv (.tmp 10))), 0, []⟩,
⟨(some 47), none, (.p (.mv (.tmp 11))), 1, []⟩,
⟨(some 48), none, (.p (.bin .leq (.tmp 46) (.tmp 47))), 2, []⟩,
⟨(some 49), none, (.p (.mv (.tmp 48))), 3, []⟩,
⟨(some 50), (some (49, true)), (.p (.mv (.tmp 0))), 4, []⟩,
⟨(some 51), (some (49, true)), (.p (.mv (.tmp 11))), 5, []⟩,
⟨(some 52), (some (49, true)), (.p (.idxSl 1 (.tmp 50) (.tmp 51))), 6, []⟩,
⟨(some 53), (some (49, true)), (.r (.load 1 false (.tmp 52))), 7, []⟩,
⟨(some 54), (some (49, true)), (.p (.mv (.tmp 0))), 8, []⟩,
⟨(some 55), (some (49, true)), (.p (.mv (.tmp 1))), 9, []⟩,
⟨(some 56), (some (49, true)), (.p (.idxSl 1 (.tmp 54) (.tmp 55))), 10, []⟩,
⟨(some 57), (some (49, true)), (.r (.load 1 false (.tmp 56))), 11, []⟩,
⟨(some 58), (some (49, true)), (.h (.call (.c (.fn 75 [] [])) [(.tmp 53), (.tmp 57)])), 12, []⟩,
⟨(some 59), (some (49, true)), (.p (.un .not (.tmp 58))), 13, []⟩,
⟨(some 60), none, (.p (.pick (.tmp 49) (.tmp 59) (.c (.bool false)))), 14, []⟩])
(.cond (.tmp 60)
.skip
(.exit 2)))
(.block 3 (.ops [⟨(some 61), none, (.p (.mv (.tmp 11))), 0, []⟩,
⟨(some 62), none, (.p (.bin .sub (.tmp 61) (.c (.int .i64 1)))), 0, []⟩,
⟨(some 11), none, (.p (.mv (.tmp 62))), 0, []⟩])))))
(.seq
(.seq
(.ops [⟨(some 63), none, (.p (.mv (.tmp 10))), 0, []⟩,
⟨(some 64), none, (.p (.mv (.tmp 11))), 0, []⟩,
⟨(some 65), none, (.p (.bin .gtr (.tmp 63) (.tmp 64))), 0, []⟩])
(.cond (.tmp 65)
(.seq
(.draw [⟨(some 66), none, (.p (.mv (.tmp 0))), 0, []⟩,
⟨(some 67), none, (.p (.mv (.tmp 11))), 1, []⟩,
⟨(some 68), none, (.p (.mv (.tmp 0))), 2, []⟩,
⟨(some 69), none, (.p (.mv (.tmp 1))), 3, []⟩,
⟨(some 70), none, (.p (.mv (.tmp 0))), 4, []⟩,
⟨(some 71), none, (.p (.mv (.tmp 1))), 5, []⟩,
⟨(some 72), none, (.p (.idxSl 1 (.tmp 70) (.tmp 71))), 6, []⟩,
⟨(some 73), none, (.r (.load 1 false (.tmp 72))), 7, []⟩,
⟨(some 74), none, (.p (.mv (.tmp 0))), 8, []⟩,
⟨(some 75), none, (.p (.mv (.tmp 11))), 9, []⟩,
⟨(some 76), none, (.p (.idxSl 1 (.tmp 74) (.tmp 75))), 10, []⟩,
⟨(some 77), none, (.r (.load 1 false (.tmp 76))), 11, []⟩,
⟨(some 78), none, (.p (.idxSl 1 (.tmp 66) (.tmp 67))), 12, []⟩,
⟨none, none, (.h (.store 1 (.tmp 78) (.tmp 73))), 13, []⟩,
⟨(some 79), none, (.p (.idxSl 1 (.tmp 68) (.tmp 69))), 14, []⟩,
⟨none, none, (.h (.store 1 (.tmp 79) (.tmp 77))), 15, []⟩])
(.seq
(.ops [⟨(some 80), none, (.p (.mv (.tmp 11))), 0, []⟩,
⟨(some 8), none, (.p (.mv (.tmp 80))), 0, []⟩,
⟨(some 9), none, (.p (.mv (.c (.bool true)))), 0, []⟩])
.ret))
.skip))
(.seq
(.draw [⟨(some 81), none, (.p (.mv (.tmp 0))), 0, []⟩,
⟨(some 82), none, (.p (.mv (.tmp 10))), 1, []⟩,
⟨(some 83), none, (.p (.mv (.tmp 0))), 2, []⟩,
⟨(some 84), none, (.p (.mv (.tmp 11))), 3, []⟩,
⟨(some 85), none, (.p (.mv (.tmp 0))), 4, []⟩,
⟨(some 86), none, (.p (.mv (.tmp 11))), 5, []⟩,
⟨(some 87), none, (.p (.idxSl 1 (.tmp 85) (.tmp 86))), 6, []⟩,
⟨(some 88), none, (.r (.load 1 false (.tmp 87))), 7, []⟩,
⟨(some 89), none, (.p (.mv (.tmp 0))), 8, []⟩,
⟨(some 90), none, (.p (.mv (.tmp 10))), 9, []⟩,
⟨(some 91), none, (.p (.idxSl 1 (.tmp 89) (.tmp 90))), 10, []⟩,
⟨(some 92), none, (.r (.load 1 false (.tmp 91))), 11, []⟩,
⟨(some 93), none, (.p (.idxSl 1 (.tmp 81) (.tmp 82))), 12, []⟩,
⟨none, none, (.h (.store 1 (.tmp 93) (.tmp 88))), 13, []⟩,
⟨(some 94), none, (.p (.idxSl 1 (.tmp 83) (.tmp 84))), 14, []⟩,
⟨none, none, (.h (.store 1 (.tmp 94) (.tmp 92))), 15, []⟩])
(.seq
(.ops [⟨(some 95), none, (.p (.mv (.tmp 10))), 0, []⟩,
⟨(some 96), none, (.p (.bin .add (.tmp 95) (.c (.int .i64 1)))), 0, []⟩,
⟨(some 10), none, (.p (.mv (.tmp 96))), 0, []⟩])
(.seq
(.ops [⟨(some 97), none, (.p (.mv (.tmp 11))), 0, []⟩,
⟨(some 98), none, (.p (.bin .sub (.tmp 97) (.c (.int .i64 1)))), 0, []⟩,
⟨(some 11), none, (.p (.mv (.tmp 98))), 0, []⟩])
(.seq
(.block 4 (.loop (.block 5 (.seq
(.block 6 (.loop (.seq
(.seq
(.draw [⟨(some 99), none, (.p (.mv (.tmp 10))), 0, []⟩,
⟨(some 100), none, (.p (.mv (.tmp 11))), 1, []⟩,
⟨(some 101), none, (.p (.bin .leq (.tmp 99) (.tmp 100))), 2, []⟩,
⟨(some 102), none, (.p (.mv (.tmp 101))), 3, []⟩,
⟨(some 103), (some (102, true)), (.p (.mv (.tmp 0))), 4, []⟩,
⟨(some 104), (some (102, true)), (.p (.mv (.tmp 10))), 5, []⟩,
⟨(some 105), (some (102, true)), (.p (.idxSl 1 (.tmp 103) (.tmp 104))), 6, []⟩,
⟨(some 106), (some (102, true)), (.r (.load 1 false (.tmp 105))), 7, []⟩,
⟨(some 107), (some (102, true)), (.p (.mv (.tmp 0))), 8, []⟩,
⟨(some 108), (some (102, true)), (.p (.mv (.tmp 1))), 9, []⟩,
⟨(some 109), (some (102, true)), (.p (.idxSl 1 (.tmp 107) (.tmp 108))), 10, []⟩,
⟨(some 110), (some (102, true)), (.r (.load 1 false (.tmp 109))), 11, []⟩,
⟨(some 111), (some (102, true)), (.h (.call (.c (.fn 75 [] [])) [(.tmp 106), (.tmp 110)])), 12, []⟩,
⟨(some 112), none, (.p (.pick (.tmp 102) (.tmp 111) (.c (.bool false)))), 13, []⟩])
(.cond (.tmp 112)
.skip
(.exit 6)))
(.block 7 (.ops [⟨(some 113), none, (.p (.mv (.tmp 10))), 0, []⟩,
⟨(some 114), none, (.p (.bin .add (.tmp 113) (.c (.int .i64 1)))), 0, []⟩,
⟨(some 10), none, (.p (.mv (.tmp 114))), 0, []⟩])))))
(.seq
(.block 8 (.loop (.seq
(.seq
(.draw [⟨(some 115), none, (.p (.mv (.tmp 10))), 0, []⟩,
⟨(some 116), none, (.p (.mv (.tmp 11))), 1, []⟩,
⟨(some 117), none, (.p (.bin .leq (.tmp 115) (.tmp 116))), 2, []⟩,
⟨(some 118), none, (.p (.mv (.tmp 117))), 3, []⟩,
⟨(some 119), (some (118, true)), (.p (.mv (.tmp 0))), 4, []⟩,
⟨(some 120), (some (118, true)), (.p (.mv (.tmp 11))), 5, []⟩,
⟨(some 121), (some (118, true)), (.p (.idxSl 1 (.tmp 119) (.tmp 120))), 6, []⟩,
⟨(some 122), (some (118, true)), (.r (.load 1 false (.tmp 121))), 7, []⟩,
⟨(some 123), (some (118, true)), (.p (.mv (.tmp 0))), 8, []⟩,
⟨(some 124), (some (118, true)), (.p (.mv (.tmp 1))), 9, []⟩,
⟨(some 125), (some (118, true)), (.p (.idxSl 1 (.tmp 123) (.tmp 124))), 10, []⟩,
⟨(some 126), (some (118, true)), (.r (.load 1 false (.tmp 125))), 11, []⟩,
⟨(some 127), (some (118, true)), (.h (.call (.c (.fn 75 [] [])) [(.tmp 122), (.tmp 126)])), 12, []⟩,
⟨(some 128), (some (118, true)), (.p (.un .not (.tmp 127))), 13, []⟩,
⟨(some 129), none, (.p (.pick (.tmp 118) (.tmp 128) (.c (.bool false)))), 14, []⟩])
(.cond (.tmp 129)
.skip
(.exit 8)))
(.block 9 (.ops [⟨(some 130), none, (.p (.mv (.tmp 11))), 0, []⟩,
⟨(some 131), none, (.p (.bin .sub (.tmp 130) (.c (.int .i64 1)))), 0, []⟩,
⟨(some 11), none, (.p (.mv (.tmp 131))), 0, []⟩])))))
(.seq
(.seq
(.ops [⟨(some 132), none, (.p (.mv (.tmp 10))), 0, []⟩,
⟨(some 133), none, (.p (.mv (.tmp 11))), 0, []⟩,
⟨(some 134), none, (.p (.bin .gtr (.tmp 132) (.tmp 133))), 0, []⟩])
(.cond (.tmp 134)
(.exit 4)
.skip))
(.seq
(.draw [⟨(some 135), none, (.p (.mv (.tmp 0))), 0, []⟩,
⟨(some 136), none, (.p (.mv (.tmp 10))), 1, []⟩,
⟨(some 137), none, (.p (.mv (.tmp 0))), 2, []⟩,
⟨(some 138), none, (.p (.mv (.tmp 11))), 3, []⟩,
⟨(some 139), none, (.p (.mv (.tmp 0))), 4, []⟩,
⟨(some 140), none, (.p (.mv (.tmp 11))), 5, []⟩,
⟨(some 141), none, (.p (.idxSl 1 (.tmp 139) (.tmp 140))), 6, []⟩,
⟨(some 142), none, (.r (.load 1 false (.tmp 141))), 7, []⟩,
⟨(some 143), none, (.p (.mv (.tmp 0))), 8, []⟩,
⟨(some 144), none, (.p (.mv (.tmp 10))), 9, []⟩,
⟨(some 145), none, (.p (.idxSl 1 (.tmp 143) (.tmp 144))), 10, []⟩,
⟨(some 146), none, (.r (.load 1 false (.tmp 145))), 11, []⟩,
⟨(some 147), none, (.p (.idxSl 1 (.tmp 135) (.tmp 136))), 12, []⟩,
⟨none, none, (.h (.store 1 (.tmp 147) (.tmp 142))), 13, []⟩,
⟨(some 148), none, (.p (.idxSl 1 (.tmp 137) (.tmp 138))), 14, []⟩,
⟨none, none, (.h (.store 1 (.tmp 148) (.tmp 146))), 15, []⟩])
(.seq
(.ops [⟨(some 149), none, (.p (.mv (.tmp 10))), 0, []⟩,
⟨(some 150), none, (.p (.bin .add (.tmp 149) (.c (.int .i64 1)))), 0, []⟩,
⟨(some 10), none, (.p (.mv (.tmp 150))), 0, []⟩])
(.ops [⟨(some 151), none, (.p (.mv (.tmp 11))), 0, []⟩,
⟨(some 152), none, (.p (.bin .sub (.tmp 151) (.c (.int .i64 1)))), 0, []⟩,
⟨(some 11), none, (.p (.mv (.tmp 152))), 0, []⟩])))))))))
(.seq
(.draw [⟨(some 153), none, (.p (.mv (.tmp 0))), 0, []⟩,
⟨(some 154), none, (.p (.mv (.tmp 11))), 1, []⟩,
⟨(some 155), none, (.p (.mv (.tmp 0))), 2, []⟩,
⟨(some 156), none, (.p (.mv (.tmp 1))), 3, []⟩,
⟨(some 157), none, (.p (.mv (.tmp 0))), 4, []⟩,
⟨(some 158), none, (.p (.mv (.tmp 1))), 5, []⟩,
⟨(some 159), none, (.p (.idxSl 1 (.tmp 157) (.tmp 158))), 6, []⟩,
⟨(some 160), none, (.r (.load 1 false (.tmp 159))), 7, []⟩,
⟨(some 161), none, (.p (.mv (.tmp 0))), 8, []⟩,
⟨(some 162), none, (.p (.mv (.tmp 11))), 9, []⟩,
⟨(some 163), none, (.p (.idxSl 1 (.tmp 161) (.tmp 162))), 10, []⟩,
⟨(some 164), none, (.r (.load 1 false (.tmp 163))), 11, []⟩,
⟨(some 165), none, (.p (.idxSl 1 (.tmp 153) (.tmp 154))), 12, []⟩,
⟨none, none, (.h (.store 1 (.tmp 165) (.tmp 160))), 13, []⟩,
⟨(some 166), none, (.p (.idxSl 1 (.tmp 155) (.tmp 156))), 14, []⟩,
⟨none, none, (.h (.store 1 (.tmp 166) (.tmp 164))), 15, []⟩])
(.seq
(.ops [⟨(some 167), none, (.p (.mv (.tmp 11))), 0, []⟩,
⟨(some 8), none, (.p (.mv (.tmp 167))), 0, []⟩,
⟨(some 9), none, (.p (.mv (.c (.bool false)))), 0, []⟩])
.ret))))))))))))⟩
theorem c77 : Mir.compF Try.prog Try.f77 = some g77 := by kernel_rfl
/-- math/bits.Len32 -/
def g78 : Mir.Fn := ⟨19, [(.tmp 2)],
(.seq
(.ops [⟨(some 2), none, (.p (.mv (.c (.int .i64 0)))), 0, []⟩])
(.seq
(.seq
(.ops [⟨(some 3), none, (.p (.mv (.tmp 0))), 0, []⟩,
⟨(some 4), none, (.p (.bin .geq (.tmp 3) (.c (.int .u32 65536)))), 0, []⟩])
(.cond (.tmp 4)
(.seq
(.ops [⟨(some 5), none, (.p (.mv (.tmp 0))), 0, []⟩,
⟨(some 6), none, (.p (.bin .shr (.tmp 5) (.c (.int .u64 16)))), 0, []⟩,
⟨(some 0), none, (.p (.mv (.tmp 6))), 0, []⟩])
(.ops [⟨(some 2), none, (.p (.mv (.c (.int .i64 16)))), 0, []⟩]))
.skip))
(.seq
(.seq
(.ops [⟨(some 7), none, (.p (.mv (.tmp 0))), 0, []⟩,
⟨(some 8), none, (.p (.bin .geq (.tmp 7) (.c (.int .u32 256)))), 0, []⟩])
(.cond (.tmp 8)
(.seq
(.ops [⟨(some 9), none, (.p (.mv (.tmp 0))), 0, []⟩,
⟨(some 10), none, (.p (.bin .shr (.tmp 9) (.c (.int .u64 8)))), 0, []⟩,
⟨(some 0), none, (.p (.mv (.tmp 10))), 0, []⟩])
(.ops [⟨(some 11), none, (.p (.mv (.tmp 2))), 0, []⟩,
⟨(some 12), none, (.p (.bin .add (.tmp 11) (.c (.int .i64 8)))), 0, []⟩,
⟨(some 2), none, (.p (.mv (.tmp 12))), 0, []⟩]))
.skip))
(.seq
(.ops [⟨(some 13), none, (.p (.mv (.tmp 2))), 0, []⟩,
⟨(some 14), none, (.p (.mv (.tmp 0))), 0, []⟩,
⟨(some 15), none, (.p (.convInt .u8 (.tmp 14))), 0, []⟩,
⟨(some 16), none, (.p (.idxStr (.c (.str [0, 1, 2, 2, 3, 3, 3, 3, 4, 4, 4, 4, 4, 4, 4, 4, 5, 5, 5, 5, 5, 5, 5, 5, 5, 5, 5, 5, 5, 5, 5, 5, 6, 6, 6, 6, 6, 6, 6, 6, 6, 6, 6, 6, 6, 6, 6, 6, 6, 6, 6, 6, 6, 6, 6, 6, 6, 6, 6, 6, 6, 6, 6, 6, 7, 7, 7, 7, 7, 7, 7, 7, 7, 7, 7, 7, 7, 7, 7, 7, 7, 7, 7, 7, 7, 7, 7, 7, 7, 7, 7, 7, 7, 7, 7, 7, 7, 7, 7, 7, 7, 7, 7, 7, 7, 7, 7, 7, 7, 7, 7, 7, 7, 7, 7, 7, 7, 7, 7, 7, 7, 7, 7, 7, 7, 7, 7, 7, 8, 8, 8, 8, 8, 8, 8, 8, 8, 8, 8, 8, 8, 8, 8, 8, 8, 8, 8, 8, 8, 8, 8, 8, 8, 8, 8, 8, 8, 8, 8, 8, 8, 8, 8, 8, 8, 8, 8, 8, 8, 8, 8, 8, 8, 8, 8, 8, 8, 8, 8, 8, 8, 8, 8, 8, 8, 8, 8, 8, 8, 8, 8, 8, 8, 8, 8, 8, 8, 8, 8, 8, 8, 8, 8, 8, 8, 8, 8, 8, 8, 8, 8, 8, 8, 8, 8, 8, 8, 8, 8, 8, 8, 8, 8, 8, 8, 8, 8, 8, 8, 8, 8, 8, 8, 8, 8, 8, 8, 8, 8, 8, 8, 8, 8, 8, 8, 8, 8, 8, 8, 8, 8, 8, 8, 8, 8, 8])) (.tmp 15))), 0, []⟩,
⟨(some 17), none, (.p (.convInt .i64 (.tmp 16))), 0, []⟩,
⟨(some 18), none, (.p (.bin .add (.tmp 13) (.tmp 17))), 0, []⟩,
⟨(some 2), none, (.p (.mv (.tmp 18))), 0, []⟩])
.ret))))⟩
theorem c78 : Mir.compF Try.prog Try.f78 = some g78 := by kernel_rfl
/-- math/bits.Len64 -/
def g79 : Mir.Fn := ⟨25, [(.tmp 2)],
(.seq
(.ops [⟨(some 2), none, (.p (.mv (.c (.int .i64 0)))), 0, []⟩])
(.seq
(.seq
(.ops [⟨(some 3), none, (.p (.mv (.tmp 0))), 0, []⟩,
⟨(some 4), none, (.p (.bin .geq (.tmp 3) (.c (.int .u64 4294967296)))), 0, []⟩])
(.cond (.tmp 4)
(.seq
(.ops [⟨(some 5), none, (.p (.mv (.tmp 0))), 0, []⟩,
⟨(some 6), none, (.p (.bin .shr (.tmp 5) (.c (.int .u64 32)))), 0, []⟩,
⟨(some 0), none, (.p (.mv (.tmp 6))), 0, []⟩])
(.ops [⟨(some 2), none, (.p (.mv (.c (.int .i64 32)))), 0, []⟩]))
.skip))
(.seq
(.seq
(.ops [⟨(some 7), none, (.p (.mv (.tmp 0))), 0, []⟩,
⟨(some 8), none, (.p (.bin .geq (.tmp 7) (.c (.int .u64 65536)))), 0, []⟩])
(.cond (.tmp 8)
(.seq
(.ops [⟨(some 9), none, (.p (.mv (.tmp 0))), 0, []⟩,
⟨(some 10), none, (.p (.bin .shr (.tmp 9) (.c (.int .u64 16)))), 0, []⟩,
⟨(some 0), none, (.p (.mv (.tmp 10))), 0, []⟩])
(.ops [⟨(some 11), none, (.p (.mv (.tmp 2))), 0, []⟩,
⟨(some 12), none, (.p (.bin .add (.tmp 11) (.c (.int .i64 16)))), 0, []⟩,
⟨(some 2), none, (.p (.mv (.tmp 12))), 0, []⟩]))
.skip))
(.seq
(.seq
(.ops [⟨(some 13), none, (.p (.mv (.tmp 0))), 0, []⟩,
⟨(some 14), none, (.p (.bin .geq (.tmp 13) (.c (.int .u64 256)))), 0, []⟩])
(.cond (.tmp 14)
(.seq
(.ops [⟨(some 15), none, (.p (.mv (.tmp 0))), 0, []⟩,
⟨(some 16), none, (.p (.bin .shr (.tmp 15) (.c (.int .u64 8)))), 0, []⟩,
⟨(some 0), none, (.p (.mv (.tmp 16))), 0, []⟩])
(.ops [⟨(some 17), none, (.p (.mv (.tmp 2))), 0, []⟩,
⟨(some 18), none, (.p (.bin .add (.tmp 17) (.c (.int .i64 8)))), 0, []⟩,
⟨(some 2), none, (.p (.mv (.tmp 18))), 0, []⟩]))
.skip))
(.seq
(.ops [⟨(some 19), none, (.p (.mv (.tmp 2))), 0, []⟩,
⟨(some 20), none, (.p (.mv (.tmp 0))), 0, []⟩,
⟨(some 21), none, (.p (.convInt .u8 (.tmp 20))), 0, []⟩,
⟨(some 22), none, (.p (.idxStr (.c (.str [0, 1, 2, 2, 3, 3, 3, 3, 4, 4, 4, 4, 4, 4, 4, 4, 5, 5, 5, 5, 5, 5, 5, 5, 5, 5, 5, 5, 5, 5, 5, 5, 6, 6, 6, 6, 6, 6, 6, 6, 6, 6, 6, 6, 6, 6, 6, 6, 6, 6, 6, 6, 6, 6, 6, 6, 6, 6, 6, 6, 6, 6, 6, 6, 7, 7, 7, 7, 7, 7, 7, 7, 7, 7, 7, 7, 7, 7, 7, 7, 7, 7, 7, 7, 7, 7, 7, 7, 7, 7, 7, 7, 7, 7, 7, 7, 7, 7, 7, 7, 7, 7, 7, 7, 7, 7, 7, 7, 7, 7, 7, 7, 7, 7, 7, 7, 7, 7, 7, 7, 7, 7, 7, 7, 7, 7, 7, 7, 8, 8, 8, 8, 8, 8, 8, 8, 8, 8, 8, 8, 8, 8, 8, 8, 8, 8, 8, 8, 8, 8, 8, 8, 8, 8, 8, 8, 8, 8, 8, 8, 8, 8, 8, 8, 8, 8, 8, 8, 8, 8, 8, 8, 8, 8, 8, 8, 8, 8, 8, 8, 8, 8, 8, 8, 8, 8, 8, 8, 8, 8, 8, 8, 8, 8, 8, 8, 8, 8, 8, 8, 8, 8, 8, 8, 8, 8, 8, 8, 8, 8, 8, 8, 8, 8, 8, 8, 8, 8, 8, 8, 8, 8, 8, 8, 8, 8, 8, 8, 8, 8, 8, 8, 8, 8, 8, 8, 8, 8, 8, 8, 8, 8, 8, 8, 8, 8, 8, 8, 8, 8, 8, 8, 8, 8, 8, 8])) (.tmp 21))), 0, []⟩,
⟨(some 23), none, (.p (.convInt .i64 (.tmp 22))), 0, []⟩,
⟨(some 24), none, (.p (.bin .add (.tmp 19) (.tmp 23))), 0, []⟩,
⟨(some 2), none, (.p (.mv (.tmp 24))), 0, []⟩])
.ret)))))⟩
theorem c79 : Mir.compF Try.prog Try.f79 = some g79 := by kernel_rfl
/-- slices.siftDownOrdered[string] -/
def g80 : Mir.Fn := ⟨76, [],
(.seq
(.ops [⟨(some 10), none, (.p (.mv (.tmp 1))), 0, []⟩,
⟨(some 8), none, (.p (.mv (.tmp 10))), 0, []⟩])
(.block 0 (.loop (.block 1 (.seq
(.ops [⟨(some 11), none, (.p (.mv (.tmp 8))), 0, []⟩,
⟨(some 12), none, (.p (.bin .mul (.c (.int .i64 2)) (.tmp 11))), 0, []⟩,
⟨(some 13), none, (.p (.bin .add (.tmp 12) (.c (.int .i64 1)))), 0, []⟩,
⟨(some 9), none, (.p (.mv (.tmp 13))), 0, []⟩])
(.seq
(.seq
(.ops [⟨(some 14), none, (.p (.mv (.tmp 9))), 0, []⟩,
⟨(some 15), none, (.p (.mv (.tmp 2))), 0, []⟩,
⟨(some 16), none, (.p (.bin .geq (.tmp 14) (.tmp 15))), 0, []⟩])
(.cond (.tmp 16)
(.exit 0)
.skip))
(.seq
(.seq
(.draw [⟨(some 17), none, (.p (.mv (.tmp 9))), 0, []⟩,
⟨(some 18), none, (.p (.bin .add (.tmp 17) (.c (.int .i64 1)))), 1, []⟩,
⟨(some 19), none, (.p (.mv (.tmp 2))), 2, []⟩,
⟨(some 20), none, (.p (.bin .lss (.tmp 18) (.tmp 19))), 3, []⟩,
⟨(some 21), none, (.p (.mv (.tmp 20))), 4, []⟩,
⟨(some 22), (some (21, true)), (.p (.mv (.tmp 0))), 5, []⟩,
⟨(some 23), (some (21, true)), (.p (.mv (.tmp 3))), 6, []⟩,
⟨(some 24), (some (21, true)), (.p (.mv (.tmp 9))), 7, []⟩,
⟨(some 25), (some (21, true)), (.p (.bin .add (.tmp 23) (.tmp 24))), 8, []⟩,
⟨(some 26), (some (21, true)), (.p (.idxSl 1 (.tmp 22) (.tmp 25))), 9, []⟩,
⟨(some 27), (some (21, true)), (.r (.load 1 false (.tmp 26))), 10, []⟩,
⟨(some 28), (some (21, true)), (.p (.mv (.tmp 0))), 11, []⟩,
⟨(some 29), (some (21, true)), (.p (.mv (.tmp 3))), 12, []⟩,
⟨(some 30), (some (21, true)), (.p (.mv (.tmp 9))), 13, []⟩,
⟨(some 31), (some (21, true)), (.p (.bin .add (.tmp 29) (.tmp 30))), 14, []⟩,
⟨(some 32), (some (21, true)), (.p (.bin .add (.tmp 31) (.c (.int .i64 1)))), 15, []⟩,
⟨(some 33), (some (21, true)), (.p (.idxSl 1 (.tmp 28) (.tmp 32))), 16, []⟩,
⟨(some 34), (some (21, true)), (.r (.load 1 false (.tmp 33))), 17, []⟩,
⟨(some 35), (some (21, true)), (.h (.call (.c (.fn 75 [] [])) [(.tmp 27), (.tmp 34)])), 18, []⟩,
⟨(some 36), none, (.p (.pick (.tmp 21) (.tmp 35) (.c (.bool false)))), 19, []⟩])
(.cond (.tmp 36)
(.ops [⟨(some 37), none, (.p (.mv (.tmp 9))), 0, []⟩,
⟨(some 38), none, (.p (.bin .add (.tmp 37) (.c (.int .i64 1)))), 0, []⟩,
⟨(some 9), none, (.p (.mv (.tmp 38))), 0, []⟩])
.skip))
(.seq
(.seq
(.draw [⟨(some 39), none, (.p (.mv (.tmp 0))), 0, []⟩,
⟨(some 40), none, (.p (.mv (.tmp 3))), 1, []⟩,
⟨(some 41), none, (.p (.mv (.tmp 8))), 2, []⟩,
⟨(some 42), none, (.p (.bin .add (.tmp 40) (.tmp 41))), 3, []⟩,
⟨(some 43), none, (.p (.idxSl 1 (.tmp 39) (.tmp 42))), 4, []⟩,
⟨(some 44), none, (.r (.load 1 false (.tmp 43))), 5, []⟩,
⟨(some 45), none, (.p (.mv (.tmp 0))), 6, []⟩,
⟨(some 46), none, (.p (.mv (.tmp 3))), 7, []⟩,
⟨(some 47), none, (.p (.mv (.tmp 9))), 8, []⟩,
⟨(some 48), none, (.p (.bin .add (.tmp 46) (.tmp 47))), 9, []⟩,
⟨(some 49), none, (.p (.idxSl 1 (.tmp 45) (.tmp 48))), 10, []⟩,
⟨(some 50), none, (.r (.load 1 false (.tmp 49))), 11, []⟩,
⟨(some 51), none, (.h (.call (.c (.fn 75 [] [])) [(.tmp 44), (.tmp 50)])), 12, []⟩,
⟨(some 52), none, (.p (.un .not (.tmp 51))), 13, []⟩])
(.cond (.tmp 52)
.ret
.skip))
(.seq
(.draw [⟨(some 53), none, (.p (.mv (.tmp 0))), 0, []⟩,
⟨(some 54), none, (.p (.mv (.tmp 3))), 1, []⟩,
⟨(some 55), none, (.p (.mv (.tmp 8))), 2, []⟩,
⟨(some 56), none, (.p (.bin .add (.tmp 54) (.tmp 55))), 3, []⟩,
⟨(some 57), none, (.p (.mv (.tmp 0))), 4, []⟩,
⟨(some 58), none, (.p (.mv (.tmp 3))), 5, []⟩,
⟨(some 59), none, (.p (.mv (.tmp 9))), 6, []⟩,
⟨(some 60), none, (.p (.bin .add (.tmp 58) (.tmp 59))), 7, []⟩,
⟨(some 61), none, (.p (.mv (.tmp 0))), 8, []⟩,
⟨(some 62), none, (.p (.mv (.tmp 3))), 9, []⟩,
⟨(some 63), none, (.p (.mv (.tmp 9))), 10, []⟩,
⟨(some 64), none, (.p (.bin .add (.tmp 62) (.tmp 63))), 11, []⟩,
⟨(some 65), none, (.p (.idxSl 1 (.tmp 61) (.tmp 64))), 12, []⟩,
⟨(some 66), none, (.r (.load 1 false (.tmp 65))), 13, []⟩,
⟨(some 67), none, (.p (.mv (.tmp 0))), 14, []⟩,
⟨(some 68), none, (.p (.mv (.tmp 3))), 15, []⟩,
⟨(some 69), none, (.p (.mv (.tmp 8))), 16, []⟩,
⟨(some 70), none, (.p (.bin .add (.tmp 68) (.tmp 69))), 17, []⟩,
⟨(some 71), none, (.p (.idxSl 1 (.tmp 67) (.tmp 70))), 18, []⟩,
⟨(some 72), none, (.r (.load 1 false (.tmp 71))), 19, []⟩,
⟨(some 73), none, (.p (.idxSl 1 (.tmp 53) (.tmp 56))), 20, []⟩,
⟨none, none, (.h (.store 1 (.tmp 73) (.tmp 66))), 21, []⟩,
⟨(some 74), none, (.p (.idxSl 1 (.tmp 57) (.tmp 60))), 22, []⟩,
⟨none, none, (.h (.store 1 (.tmp 74) (.tmp 72))), 23, []⟩])
(.ops [⟨(some 75), none, (.p (.mv (.tmp 9))), 0, []⟩,
⟨(some 8), none, (.p (.mv (.tmp 75))), 0, []⟩]))))))))))⟩
theorem c80 : Mir.compF Try.prog Try.f80 = some g80 := by kernel_rfl
/-- slices.nextPowerOfTwo -/
def g81 : Mir.Fn := ⟨7, [(.tmp 2)],
(.seq
(.ops [⟨(some 2), none, (.p (.mv (.c (.int .u64 0)))), 0, []⟩])
(.seq
(.ops [⟨(some 3), none, (.p (.mv (.tmp 0))), 0, []⟩,
⟨(some 4), none, (.p (.convInt .u64 (.tmp 3))), 0, []⟩,
⟨(some 5), none, (.h (.call (.c (.fn 67 [] [])) [(.tmp 4)])), 0, []⟩,
⟨(some 6), none, (.p (.bin .shl (.c (.int .u64 1)) (.tmp 5))), 0, []⟩,
⟨(some 2), none, (.p (.mv (.tmp 6))), 0, []⟩])
.ret))⟩
theorem c81 : Mir.compF Try.prog Try.f81 = some g81 := by kernel_rfl
/-- (*slices.xorshift).Next -/
def g82 : Mir.Fn := ⟨33, [(.tmp 2)],
(.seq
(.ops [⟨(some 2), none, (.p (.mv (.c (.int .u64 0)))), 0, []⟩])
(.seq
(.draw [⟨(some 3), none, (.p (.mv (.tmp 0))), 0, []⟩,
⟨(some 4), none, (.p (.nilchk (.tmp 3))), 1, []⟩,
⟨(some 5), none, (.r (.load 1 false (.tmp 4))), 2, []⟩,
⟨(some 6), none, (.p (.mv (.tmp 0))), 3, []⟩,
⟨(some 7), none, (.p (.nilchk (.tmp 6))), 4, []⟩,
⟨(some 8), none, (.r (.load 1 false (.tmp 7))), 5, []⟩,
⟨(some 9), none, (.p (.bin .shl (.tmp 8) (.c (.int .u64 13)))), 6, []⟩,
⟨(some 10), none, (.p (.bin .xor (.tmp 5) (.tmp 9))), 7, []⟩,
⟨(some 11), none, (.p (.nilchk (.tmp 3))), 8, []⟩,
⟨none, none, (.h (.store 1 (.tmp 11) (.tmp 10))), 9, []⟩])
(.seq
(.draw [⟨(some 12), none, (.p (.mv (.tmp 0))), 0, []⟩,
⟨(some 13), none, (.p (.nilchk (.tmp 12))), 1, []⟩,
⟨(some 14), none, (.r (.load 1 false (.tmp 13))), 2, []⟩,
⟨(some 15), none, (.p (.mv (.tmp 0))), 3, []⟩,
⟨(some 16), none, (.p (.nilchk (.tmp 15))), 4, []⟩,
⟨(some 17), none, (.r (.load 1 false (.tmp 16))), 5, []⟩,
⟨(some 18), none, (.p (.bin .shr (.tmp 17) (.c (.int .u64 7)))), 6, []⟩,
⟨(some 19), none, (.p (.bin .xor (.tmp 14) (.tmp 18))), 7, []⟩,
⟨(some 20), none, (.p (.nilchk (.tmp 12))), 8, []⟩,
⟨none, none, (.h (.store 1 (.tmp 20) (.tmp 19))), 9, []⟩])
(.seq
(.draw [⟨(some 21), none, (.p (.mv (.tmp 0))), 0, []⟩,
⟨(some 22), none, (.p (.nilchk (.tmp 21))), 1, []⟩,
⟨(some 23), none, (.r (.load 1 false (.tmp 22))), 2, []⟩,
⟨(some 24), none, (.p (.mv (.tmp 0))), 3, []⟩,
⟨(some 25), none, (.p (.nilchk (.tmp 24))), 4, []⟩,
⟨(some 26), none, (.r (.load 1 false (.tmp 25))), 5, []⟩,
⟨(some 27), none, (.p (.bin .shl (.tmp 26) (.c (.int .u64 17)))), 6, []⟩,
⟨(some 28), none, (.p (.bin .xor (.tmp 23) (.tmp 27))), 7, []⟩,
⟨(some 29), none, (.p (.nilchk (.tmp 21))), 8, []⟩,
⟨none, none, (.h (.store 1 (.tmp 29) (.tmp 28))), 9, []⟩])
(.seq
(.ops [⟨(some 30), none, (.p (.mv (.tmp 0))), 0, []⟩,
⟨(some 31), none, (.p (.nilchk (.tmp 30))), 0, []⟩,
⟨(some 32), none, (.r (.load 1 false (.tmp 31))), 0, []⟩,
⟨(some 2), none, (.p (.mv (.tmp 32))), 0, []⟩])
.ret)))))⟩
theorem c82 : Mir.compF Try.prog Try.f82 = some g82 := by kernel_rfl
/-- slices.medianAdjacentOrdered[string] -/
def g83 : Mir.Fn := ⟨15, [(.tmp 6)],
(.seq
(.ops [⟨(some 6), none, (.p (.mv (.c (.int .i64 0)))), 0, []⟩])
(.seq
(.ops [⟨(some 7), none, (.p (.mv (.tmp 0))), 0, []⟩,
⟨(some 8), none, (.p (.mv (.tmp 1))), 0, []⟩,
⟨(some 9), none, (.p (.bin .sub (.tmp 8) (.c (.int .i64 1)))), 0, []⟩,
⟨(some 10), none, (.p (.mv (.tmp 1))), 0, []⟩,
⟨(some 11), none, (.p (.mv (.tmp 1))), 0, []⟩,
⟨(some 12), none, (.p (.bin .add (.tmp 11) (.c (.int .i64 1)))), 0, []⟩,
⟨(some 13), none, (.p (.mv (.tmp 2))), 0, []⟩,
⟨(some 14), none, (.h (.call (.c (.fn 84 [] [])) [(.tmp 7), (.tmp 9), (.tmp 10), (.tmp 12), (.tmp 13)])), 0, []⟩,
⟨(some 6), none, (.p (.mv (.tmp 14))), 0, []⟩])
.ret))⟩
theorem c83 : Mir.compF Try.prog Try.f83 = some g83 := by kernel_rfl
/-- slices.medianOrdered[string] -/
def g84 : Mir.Fn := ⟨36, [(.tmp 10)],
(.seq
(.ops [⟨(some 10), none, (.p (.mv (.c (.int .i64 0)))), 0, []⟩])
(.seq
(.ops [⟨(some 12), none, (.p (.mv (.tmp 0))), 0, []⟩,
⟨(some 13), none, (.p (.mv (.tmp 1))), 0, []⟩,
⟨(some 14), none, (.p (.mv (.tmp 2))), 0, []⟩,
⟨(some 15), none, (.p (.mv (.tmp 4))), 0, []⟩,
⟨(some 16), none, (.h (.call (.c (.fn 86 [] [])) [(.tmp 12), (.tmp 13), (.tmp 14), (.tmp 15)])), 0, []⟩,
⟨(some 11), none, (.p (.mv (.tmp 16))), 0, []⟩,
⟨(some 17), none, (.p (.ext (.tmp 11) 0)), 0, []⟩,
⟨(some 18), none, (.p (.ext (.tmp 11) 1)), 0, []⟩,
⟨(some 1), none, (.p (.mv (.tmp 17))), 0, []⟩,
⟨(some 2), none, (.p (.mv (.tmp 18))), 0, []⟩])
(.seq
(.ops [⟨(some 20), none, (.p (.mv (.tmp 0))), 0, []⟩,
⟨(some 21), none, (.p (.mv (.tmp 2))), 0, []⟩,
⟨(some 22), none, (.p (.mv (.tmp 3))), 0, []⟩,
⟨(some 23), none, (.p (.mv (.tmp 4))), 0, []⟩,
⟨(some 24), none, (.h (.call (.c (.fn 86 [] [])) [(.tmp 20), (.tmp 21), (.tmp 22), (.tmp 23)])), 0, []⟩,
⟨(some 19), none, (.p (.mv (.tmp 24))), 0, []⟩,
⟨(some 25), none, (.p (.ext (.tmp 19) 0)), 0, []⟩,
⟨(some 26), none, (.p (.ext (.tmp 19) 1)), 0, []⟩,
⟨(some 2), none, (.p (.mv (.tmp 25))), 0, []⟩,
⟨(some 3), none, (.p (.mv (.tmp 26))), 0, []⟩])
(.seq
(.ops [⟨(some 28), none, (.p (.mv (.tmp 0))), 0, []⟩,
⟨(some 29), none, (.p (.mv (.tmp 1))), 0, []⟩,
⟨(some 30), none, (.p (.mv (.tmp 2))), 0, []⟩,
⟨(some 31), none, (.p (.mv (.tmp 4))), 0, []⟩,
⟨(some 32), none, (.h (.call (.c (.fn 86 [] [])) [(.tmp 28), (.tmp 29), (.tmp 30), (.tmp 31)])), 0, []⟩,
⟨(some 27), none, (.p (.mv (.tmp 32))), 0, []⟩,
⟨(some 33), none, (.p (.ext (.tmp 27) 0)), 0, []⟩,
⟨(some 34), none, (.p (.ext (.tmp 27) 1)), 0, []⟩,
⟨(some 1), none, (.p (.mv (.tmp 33))), 0, []⟩,
⟨(some 2), none, (.p (.mv (.tmp 34))), 0, []⟩])
(.seq
(.ops [⟨(some 35), none, (.p (.mv (.tmp 2))), 0, []⟩,
⟨(some 10), none, (.p (.mv (.tmp 35))), 0, []⟩])
.ret)))))⟩
theorem c84 : Mir.compF Try.prog Try.f84 = some g84 := by kernel_rfl
/-- cmp.isNaN[string] -/
def g85 : Mir.Fn := ⟨6, [(.tmp 2)],
(.seq
(.ops [⟨(some 2), none, (.p (.mv (.c (.bool false)))), 0, []⟩])
(.seq
(.ops [⟨(some 3), none, (.p (.mv (.tmp 0))), 0, []⟩,
⟨(some 4), none, (.p (.mv (.tmp 0))), 0, []⟩,
⟨(some 5), none, (.p (.bin .neq (.tmp 3) (.tmp 4))), 0, []⟩,
⟨(some 2), none, (.p (.mv (.tmp 5))), 0, []⟩])
.ret))⟩
theorem c85 : Mir.compF Try.prog Try.f85 = some g85 := by kernel_rfl
/-- slices.order2Ordered[string] -/
def g86 : Mir.Fn := ⟨28, [(.tmp 8), (.tmp 9)],
(.seq
(.ops [⟨(some 8), none, (.p (.mv (.c (.int .i64 0)))), 0, []⟩,
⟨(some 9), none, (.p (.mv (.c (.int .i64 0)))), 0, []⟩])
(.seq
(.seq
(.draw [⟨(some 10), none, (.p (.mv (.tmp 0))), 0, []⟩,
⟨(some 11), none, (.p (.mv (.tmp 2))), 1, []⟩,
⟨(some 12), none, (.p (.idxSl 1 (.tmp 10) (.tmp 11))), 2, []⟩,
⟨(some 13), none, (.r (.load 1 false (.tmp 12))), 3, []⟩,
⟨(some 14), none, (.p (.mv (.tmp 0))), 4, []⟩,
⟨(some 15), none, (.p (.mv (.tmp 1))), 5, []⟩,
⟨(some 16), none, (.p (.idxSl 1 (.tmp 14) (.tmp 15))), 6, []⟩,
⟨(some 17), none, (.r (.load 1 false (.tmp 16))), 7, []⟩,
⟨(some 18), none, (.h (.call (.c (.fn 75 [] [])) [(.tmp 13), (.tmp 17)])), 8, []⟩])
(.cond (.tmp 18)
(.seq
(.ops [⟨(some 19), none, (.p (.mv (.tmp 3))), 0, []⟩,
⟨(some 20), none, (.p (.nilchk (.tmp 19))), 0, []⟩,
⟨(some 21), none, (.r (.load 1 false (.tmp 20))), 0, []⟩,
⟨(some 22), none, (.p (.bin .add (.tmp 21) (.c (.int .i64 1)))), 0, []⟩,
⟨(some 23), none, (.p (.nilchk (.tmp 19))), 0, []⟩,
⟨none, none, (.h (.store 1 (.tmp 23) (.tmp 22))), 0, []⟩])
(.seq
(.ops [⟨(some 24), none, (.p (.mv (.tmp 2))), 0, []⟩,
⟨(some 25), none, (.p (.mv (.tmp 1))), 0, []⟩,
⟨(some 8), none, (.p (.mv (.tmp 24))), 0, []⟩,
⟨(some 9), none, (.p (.mv (.tmp 25))), 0, []⟩])
.ret))
.skip))
(.seq
(.ops [⟨(some 26), none, (.p (.mv (.tmp 1))), 0, []⟩,
⟨(some 27), none, (.p (.mv (.tmp 2))), 0, []⟩,
⟨(some 8), none, (.p (.mv (.tmp 26))), 0, []⟩,
⟨(some 9), none, (.p (.mv (.tmp 27))), 0, []⟩])
.ret)))⟩
theorem c86 : Mir.compF Try.prog Try.f86 = some g86 := by kernel_rfl
end Go.Proofs.Ytijipnkdabdioaa
