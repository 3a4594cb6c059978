/- The mirror's code of the seat's functions; printed by KPrint. -/
import Derived.Test.YtijipnkdabdioaaDoorG1
namespace Go.Proofs.YtijipnkdabdioaaDoor
/-- internal/bytealg.hashStr[string] -/
def g75 : Mir.Fn := ⟨39, [(.tmp 2), (.tmp 3)],
(.seq
(.ops [⟨(some 2), none, (.p (.mv (.c (.int .u32 0)))), 0, []⟩,
⟨(some 3), none, (.p (.mv (.c (.int .u32 0)))), 0, []⟩])
(.seq
(.ops [⟨(some 4), none, (.p (.mv (.c (.int .u32 0)))), 0, []⟩])
(.seq
(.seq
(.ops [⟨(some 5), none, (.p (.mv (.c (.int .i64 0)))), 0, []⟩])
(.block 0 (.loop (.seq
(.seq
(.ops [⟨(some 9), none, (.p (.mv (.tmp 5))), 0, []⟩,
⟨(some 10), none, (.p (.mv (.tmp 0))), 0, []⟩,
⟨(some 11), none, (.p (.lenStr (.tmp 10))), 0, []⟩,
⟨(some 12), none, (.p (.bin .lss (.tmp 9) (.tmp 11))), 0, []⟩])
(.cond (.tmp 12)
.skip
(.exit 0)))
(.seq
(.block 1 (.ops [⟨(some 15), none, (.p (.mv (.tmp 4))), 0, []⟩,
⟨(some 16), none, (.p (.bin .mul (.tmp 15) (.c (.int .u32 16777619)))), 0, []⟩,
⟨(some 17), none, (.p (.mv (.tmp 0))), 0, []⟩,
⟨(some 18), none, (.p (.mv (.tmp 5))), 0, []⟩,
⟨(some 19), none, (.p (.idxStr (.tmp 17) (.tmp 18))), 0, []⟩,
⟨(some 20), none, (.p (.convInt .u32 (.tmp 19))), 0, []⟩,
⟨(some 21), none, (.p (.bin .add (.tmp 16) (.tmp 20))), 0, []⟩,
⟨(some 4), none, (.p (.mv (.tmp 21))), 0, []⟩]))
(.ops [⟨(some 13), none, (.p (.mv (.tmp 5))), 0, []⟩,
⟨(some 14), none, (.p (.bin .add (.tmp 13) (.c (.int .i64 1)))), 0, []⟩,
⟨(some 5), none, (.p (.mv (.tmp 14))), 0, []⟩]))))))
(.seq
(.ops [⟨(some 6), none, (.p (.mv (.c (.int .u32 1)))), 0, []⟩,
⟨(some 7), none, (.p (.mv (.c (.int .u32 16777619)))), 0, []⟩])
(.seq
(.seq
(.ops [⟨(some 22), none, (.p (.mv (.tmp 0))), 0, []⟩,
⟨(some 23), none, (.p (.lenStr (.tmp 22))), 0, []⟩,
⟨(some 8), none, (.p (.mv (.tmp 23))), 0, []⟩])
(.block 2 (.loop (.seq
(.seq
(.ops [⟨(some 24), none, (.p (.mv (.tmp 8))), 0, []⟩,
⟨(some 25), none, (.p (.bin .gtr (.tmp 24) (.c (.int .i64 0)))), 0, []⟩])
(.cond (.tmp 25)
.skip
(.exit 2)))
(.seq
(.block 3 (.seq
(.seq
(.ops [⟨(some 28), none, (.p (.mv (.tmp 8))), 0, []⟩,
⟨(some 29), none, (.p (.bin .and (.tmp 28) (.c (.int .i64 1)))), 0, []⟩,
⟨(some 30), none, (.p (.bin .neq (.tmp 29) (.c (.int .i64 0)))), 0, []⟩])
(.cond (.tmp 30)
(.ops [⟨(some 31), none, (.p (.mv (.tmp 6))), 0, []⟩,
⟨(some 32), none, (.p (.mv (.tmp 7))), 0, []⟩,
⟨(some 33), none, (.p (.bin .mul (.tmp 31) (.tmp 32))), 0, []⟩,
⟨(some 6), none, (.p (.mv (.tmp 33))), 0, []⟩])
.skip))
(.ops [⟨(some 34), none, (.p (.mv (.tmp 7))), 0, []⟩,
⟨(some 35), none, (.p (.mv (.tmp 7))), 0, []⟩,
⟨(some 36), none, (.p (.bin .mul (.tmp 34) (.tmp 35))), 0, []⟩,
⟨(some 7), none, (.p (.mv (.tmp 36))), 0, []⟩])))
(.ops [⟨(some 26), none, (.p (.mv (.tmp 8))), 0, []⟩,
⟨(some 27), none, (.p (.bin .shr (.tmp 26) (.c (.int .u64 1)))), 0, []⟩,
⟨(some 8), none, (.p (.mv (.tmp 27))), 0, []⟩]))))))
(.seq
(.ops [⟨(some 37), none, (.p (.mv (.tmp 4))), 0, []⟩,
⟨(some 38), none, (.p (.mv (.tmp 6))), 0, []⟩,
⟨(some 2), none, (.p (.mv (.tmp 37))), 0, []⟩,
⟨(some 3), none, (.p (.mv (.tmp 38))), 0, []⟩])
.ret))))))⟩
theorem c75 : Mir.compF Tryd.prog Tryd.f75 = some g75 := by kernel_rfl
/-- internal/strconv.lower -/
def g76 : Mir.Fn := ⟨5, [(.tmp 2)],
(.seq
(.ops [⟨(some 2), none, (.p (.mv (.c (.int .u8 0)))), 0, []⟩])
(.seq
(.ops [⟨(some 3), none, (.p (.mv (.tmp 0))), 0, []⟩,
⟨(some 4), none, (.p (.bin .or (.tmp 3) (.c (.int .u8 32)))), 0, []⟩,
⟨(some 2), none, (.p (.mv (.tmp 4))), 0, []⟩])
.ret))⟩
theorem c76 : Mir.compF Tryd.prog Tryd.f76 = some g76 := by kernel_rfl
/-- internal/strconv.underscoreOK -/
def g77 : Mir.Fn := ⟨94, [(.tmp 2)],
(.seq
(.ops [⟨(some 2), none, (.p (.mv (.c (.bool false)))), 0, []⟩])
(.seq
(.ops [⟨(some 3), none, (.p (.mv (.c (.int .i32 94)))), 0, []⟩])
(.seq
(.ops [⟨(some 4), none, (.p (.mv (.c (.int .i64 0)))), 0, []⟩])
(.seq
(.seq
(.ops [⟨(some 6), none, (.p (.mv (.tmp 0))), 0, []⟩,
⟨(some 7), none, (.p (.lenStr (.tmp 6))), 0, []⟩,
⟨(some 8), none, (.p (.bin .geq (.tmp 7) (.c (.int .i64 1)))), 0, []⟩,
⟨(some 9), none, (.p (.mv (.tmp 8))), 0, []⟩,
⟨(some 10), (some (9, true)), (.p (.mv (.tmp 0))), 0, []⟩,
⟨(some 11), (some (9, true)), (.p (.idxStr (.tmp 10) (.c (.int .i64 0)))), 0, []⟩,
⟨(some 12), (some (9, true)), (.p (.bin .eql (.tmp 11) (.c (.int .u8 45)))), 0, []⟩,
⟨(some 13), (some (9, true)), (.p (.mv (.tmp 12))), 0, []⟩,
⟨(some 14), (some (13, false)), (.p (.mv (.tmp 0))), 0, []⟩,
⟨(some 15), (some (13, false)), (.p (.idxStr (.tmp 14) (.c (.int .i64 0)))), 0, []⟩,
⟨(some 16), (some (13, false)), (.p (.bin .eql (.tmp 15) (.c (.int .u8 43)))), 0, []⟩,
⟨(some 17), (some (9, true)), (.p (.pick (.tmp 13) (.c (.bool true)) (.tmp 16))), 0, []⟩,
⟨(some 18), none, (.p (.pick (.tmp 9) (.tmp 17) (.c (.bool false)))), 0, []⟩])
(.cond (.tmp 18)
(.ops [⟨(some 19), none, (.p (.mv (.tmp 0))), 0, []⟩,
⟨(some 20), none, (.p (.subStr (.tmp 19) (some (.c (.int .i64 1))) none)), 0, []⟩,
⟨(some 0), none, (.p (.mv (.tmp 20))), 0, []⟩])
.skip))
(.seq
(.ops [⟨(some 5), none, (.p (.mv (.c (.bool false)))), 0, []⟩])
(.seq
(.seq
(.ops [⟨(some 21), none, (.p (.mv (.tmp 0))), 0, []⟩,
⟨(some 22), none, (.p (.lenStr (.tmp 21))), 0, []⟩,
⟨(some 23), none, (.p (.bin .geq (.tmp 22) (.c (.int .i64 2)))), 0, []⟩,
⟨(some 24), none, (.p (.mv (.tmp 23))), 0, []⟩,
⟨(some 25), (some (24, true)), (.p (.mv (.tmp 0))), 0, []⟩,
⟨(some 26), (some (24, true)), (.p (.idxStr (.tmp 25) (.c (.int .i64 0)))), 0, []⟩,
⟨(some 27), (some (24, true)), (.p (.bin .eql (.tmp 26) (.c (.int .u8 48)))), 0, []⟩,
⟨(some 28), none, (.p (.pick (.tmp 24) (.tmp 27) (.c (.bool false)))), 0, []⟩,
⟨(some 29), none, (.p (.mv (.tmp 28))), 0, []⟩,
⟨(some 30), (some (29, true)), (.p (.mv (.tmp 0))), 0, []⟩,
⟨(some 31), (some (29, true)), (.p (.idxStr (.tmp 30) (.c (.int .i64 1)))), 0, []⟩,
⟨(some 32), (some (29, true)), (.h (.call (.c (.fn 76 [] [])) [(.tmp 31)])), 0, []⟩,
⟨(some 33), (some (29, true)), (.p (.bin .eql (.tmp 32) (.c (.int .u8 98)))), 0, []⟩,
⟨(some 34), (some (29, true)), (.p (.mv (.tmp 33))), 0, []⟩,
⟨(some 35), (some (34, false)), (.p (.mv (.tmp 0))), 0, []⟩,
⟨(some 36), (some (34, false)), (.p (.idxStr (.tmp 35) (.c (.int .i64 1)))), 0, []⟩,
⟨(some 37), (some (34, false)), (.h (.call (.c (.fn 76 [] [])) [(.tmp 36)])), 0, []⟩,
⟨(some 38), (some (34, false)), (.p (.bin .eql (.tmp 37) (.c (.int .u8 111)))), 0, []⟩,
⟨(some 39), (some (29, true)), (.p (.pick (.tmp 34) (.c (.bool true)) (.tmp 38))), 0, []⟩,
⟨(some 40), (some (29, true)), (.p (.mv (.tmp 39))), 0, []⟩,
⟨(some 41), (some (40, false)), (.p (.mv (.tmp 0))), 0, []⟩,
⟨(some 42), (some (40, false)), (.p (.idxStr (.tmp 41) (.c (.int .i64 1)))), 0, []⟩,
⟨(some 43), (some (40, false)), (.h (.call (.c (.fn 76 [] [])) [(.tmp 42)])), 0, []⟩,
⟨(some 44), (some (40, false)), (.p (.bin .eql (.tmp 43) (.c (.int .u8 120)))), 0, []⟩,
⟨(some 45), (some (29, true)), (.p (.pick (.tmp 40) (.c (.bool true)) (.tmp 44))), 0, []⟩,
⟨(some 46), none, (.p (.pick (.tmp 29) (.tmp 45) (.c (.bool false)))), 0, []⟩])
(.cond (.tmp 46)
(.seq
(.ops [⟨(some 4), none, (.p (.mv (.c (.int .i64 2)))), 0, []⟩])
(.seq
(.ops [⟨(some 3), none, (.p (.mv (.c (.int .i32 48)))), 0, []⟩])
(.ops [⟨(some 47), none, (.p (.mv (.tmp 0))), 0, []⟩,
⟨(some 48), none, (.p (.idxStr (.tmp 47) (.c (.int .i64 1)))), 0, []⟩,
⟨(some 49), none, (.h (.call (.c (.fn 76 [] [])) [(.tmp 48)])), 0, []⟩,
⟨(some 50), none, (.p (.bin .eql (.tmp 49) (.c (.int .u8 120)))), 0, []⟩,
⟨(some 5), none, (.p (.mv (.tmp 50))), 0, []⟩])))
.skip))
(.seq
(.block 0 (.loop (.seq
(.seq
(.ops [⟨(some 51), none, (.p (.mv (.tmp 4))), 0, []⟩,
⟨(some 52), none, (.p (.mv (.tmp 0))), 0, []⟩,
⟨(some 53), none, (.p (.lenStr (.tmp 52))), 0, []⟩,
⟨(some 54), none, (.p (.bin .lss (.tmp 51) (.tmp 53))), 0, []⟩])
(.cond (.tmp 54)
.skip
(.exit 0)))
(.seq
(.block 1 (.seq
(.seq
(.ops [⟨(some 57), none, (.p (.mv (.tmp 0))), 0, []⟩,
⟨(some 58), none, (.p (.mv (.tmp 4))), 0, []⟩,
⟨(some 59), none, (.p (.idxStr (.tmp 57) (.tmp 58))), 0, []⟩,
⟨(some 60), none, (.p (.bin .leq (.c (.int .u8 48)) (.tmp 59))), 0, []⟩,
⟨(some 61), none, (.p (.mv (.tmp 60))), 0, []⟩,
⟨(some 62), (some (61, true)), (.p (.mv (.tmp 0))), 0, []⟩,
⟨(some 63), (some (61, true)), (.p (.mv (.tmp 4))), 0, []⟩,
⟨(some 64), (some (61, true)), (.p (.idxStr (.tmp 62) (.tmp 63))), 0, []⟩,
⟨(some 65), (some (61, true)), (.p (.bin .leq (.tmp 64) (.c (.int .u8 57)))), 0, []⟩,
⟨(some 66), none, (.p (.pick (.tmp 61) (.tmp 65) (.c (.bool false)))), 0, []⟩,
⟨(some 67), none, (.p (.mv (.tmp 66))), 0, []⟩,
⟨(some 68), (some (67, false)), (.p (.mv (.tmp 5))), 0, []⟩,
⟨(some 69), (some (67, false)), (.p (.mv (.tmp 68))), 0, []⟩,
⟨(some 70), (some (69, true)), (.p (.mv (.tmp 0))), 0, []⟩,
⟨(some 71), (some (69, true)), (.p (.mv (.tmp 4))), 0, []⟩,
⟨(some 72), (some (69, true)), (.p (.idxStr (.tmp 70) (.tmp 71))), 0, []⟩,
⟨(some 73), (some (69, true)), (.h (.call (.c (.fn 76 [] [])) [(.tmp 72)])), 0, []⟩,
⟨(some 74), (some (69, true)), (.p (.bin .leq (.c (.int .u8 97)) (.tmp 73))), 0, []⟩,
⟨(some 75), (some (67, false)), (.p (.pick (.tmp 69) (.tmp 74) (.c (.bool false)))), 0, []⟩,
⟨(some 76), (some (67, false)), (.p (.mv (.tmp 75))), 0, []⟩,
⟨(some 77), (some (76, true)), (.p (.mv (.tmp 0))), 0, []⟩,
⟨(some 78), (some (76, true)), (.p (.mv (.tmp 4))), 0, []⟩,
⟨(some 79), (some (76, true)), (.p (.idxStr (.tmp 77) (.tmp 78))), 0, []⟩,
⟨(some 80), (some (76, true)), (.h (.call (.c (.fn 76 [] [])) [(.tmp 79)])), 0, []⟩,
⟨(some 81), (some (76, true)), (.p (.bin .leq (.tmp 80) (.c (.int .u8 102)))), 0, []⟩,
⟨(some 82), (some (67, false)), (.p (.pick (.tmp 76) (.tmp 81) (.c (.bool false)))), 0, []⟩,
⟨(some 83), none, (.p (.pick (.tmp 67) (.c (.bool true)) (.tmp 82))), 0, []⟩])
(.cond (.tmp 83)
(.seq
(.ops [⟨(some 3), none, (.p (.mv (.c (.int .i32 48)))), 0, []⟩])
(.exit 1))
.skip))
(.seq
(.seq
(.ops [⟨(some 84), none, (.p (.mv (.tmp 0))), 0, []⟩,
⟨(some 85), none, (.p (.mv (.tmp 4))), 0, []⟩,
⟨(some 86), none, (.p (.idxStr (.tmp 84) (.tmp 85))), 0, []⟩,
⟨(some 87), none, (.p (.bin .eql (.tmp 86) (.c (.int .u8 95)))), 0, []⟩])
(.cond (.tmp 87)
(.seq
(.seq
(.ops [⟨(some 88), none, (.p (.mv (.tmp 3))), 0, []⟩,
⟨(some 89), none, (.p (.bin .neq (.tmp 88) (.c (.int .i32 48)))), 0, []⟩])
(.cond (.tmp 89)
(.seq
(.ops [⟨(some 2), none, (.p (.mv (.c (.bool false)))), 0, []⟩])
.ret)
.skip))
(.seq
(.ops [⟨(some 3), none, (.p (.mv (.c (.int .i32 95)))), 0, []⟩])
(.exit 1)))
.skip))
(.seq
(.seq
(.ops [⟨(some 90), none, (.p (.mv (.tmp 3))), 0, []⟩,
⟨(some 91), none, (.p (.bin .eql (.tmp 90) (.c (.int .i32 95)))), 0, []⟩])
(.cond (.tmp 91)
(.seq
(.ops [⟨(some 2), none, (.p (.mv (.c (.bool false)))), 0, []⟩])
.ret)
.skip))
(.ops [⟨(some 3), none, (.p (.mv (.c (.int .i32 33)))), 0, []⟩])))))
(.ops [⟨(some 55), none, (.p (.mv (.tmp 4))), 0, []⟩,
⟨(some 56), none, (.p (.bin .add (.tmp 55) (.c (.int .i64 1)))), 0, []⟩,
⟨(some 4), none, (.p (.mv (.tmp 56))), 0, []⟩])))))
(.seq
(.ops [⟨(some 92), none, (.p (.mv (.tmp 3))), 0, []⟩,
⟨(some 93), none, (.p (.bin .neq (.tmp 92) (.c (.int .i32 95)))), 0, []⟩,
⟨(some 2), none, (.p (.mv (.tmp 93))), 0, []⟩])
.ret))))))))⟩
theorem c77 : Mir.compF Tryd.prog Tryd.f77 = some g77 := by kernel_rfl
/-- internal/strconv.log10Pow2 -/
def g78 : Mir.Fn := ⟨6, [(.tmp 2)],
(.seq
(.ops [⟨(some 2), none, (.p (.mv (.c (.int .i64 0)))), 0, []⟩])
(.seq
(.ops [⟨(some 3), none, (.p (.mv (.tmp 0))), 0, []⟩,
⟨(some 4), none, (.p (.bin .mul (.tmp 3) (.c (.int .i64 78913)))), 0, []⟩,
⟨(some 5), none, (.p (.bin .shr (.tmp 4) (.c (.int .u64 18)))), 0, []⟩,
⟨(some 2), none, (.p (.mv (.tmp 5))), 0, []⟩])
.ret))⟩
theorem c78 : Mir.compF Tryd.prog Tryd.f78 = some g78 := by kernel_rfl
/-- math/bits.Len64 -/
def g79 : Mir.Fn := ⟨25, [(.tmp 2)],
(.seq
(.ops [⟨(some 2), none, (.p (.mv (.c (.int .i64 0)))), 0, []⟩])
(.seq
(.seq
(.ops [⟨(some 3), none, (.p (.mv (.tmp 0))), 0, []⟩,
⟨(some 4), none, (.p (.bin .geq (.tmp 3) (.c (.int .u64 4294967296)))), 0, []⟩])
(.cond (.tmp 4)
(.seq
(.ops [⟨(some 5), none, (.p (.mv (.tmp 0))), 0, []⟩,
⟨(some 6), none, (.p (.bin .shr (.tmp 5) (.c (.int .u64 32)))), 0, []⟩,
⟨(some 0), none, (.p (.mv (.tmp 6))), 0, []⟩])
(.ops [⟨(some 2), none, (.p (.mv (.c (.int .i64 32)))), 0, []⟩]))
.skip))
(.seq
(.seq
(.ops [⟨(some 7), none, (.p (.mv (.tmp 0))), 0, []⟩,
⟨(some 8), none, (.p (.bin .geq (.tmp 7) (.c (.int .u64 65536)))), 0, []⟩])
(.cond (.tmp 8)
(.seq
(.ops [⟨(some 9), none, (.p (.mv (.tmp 0))), 0, []⟩,
⟨(some 10), none, (.p (.bin .shr (.tmp 9) (.c (.int .u64 16)))), 0, []⟩,
⟨(some 0), none, (.p (.mv (.tmp 10))), 0, []⟩])
(.ops [⟨(some 11), none, (.p (.mv (.tmp 2))), 0, []⟩,
⟨(some 12), none, (.p (.bin .add (.tmp 11) (.c (.int .i64 16)))), 0, []⟩,
⟨(some 2), none, (.p (.mv (.tmp 12))), 0, []⟩]))
.skip))
(.seq
(.seq
(.ops [⟨(some 13), none, (.p (.mv (.tmp 0))), 0, []⟩,
⟨(some 14), none, (.p (.bin .geq (.tmp 13) (.c (.int .u64 256)))), 0, []⟩])
(.cond (.tmp 14)
(.seq
(.ops [⟨(some 15), none, (.p (.mv (.tmp 0))), 0, []⟩,
⟨(some 16), none, (.p (.bin .shr (.tmp 15) (.c (.int .u64 8)))), 0, []⟩,
⟨(some 0), none, (.p (.mv (.tmp 16))), 0, []⟩])
(.ops [⟨(some 17), none, (.p (.mv (.tmp 2))), 0, []⟩,
⟨(some 18), none, (.p (.bin .add (.tmp 17) (.c (.int .i64 8)))), 0, []⟩,
⟨(some 2), none, (.p (.mv (.tmp 18))), 0, []⟩]))
.skip))
(.seq
(.ops [⟨(some 19), none, (.p (.mv (.tmp 2))), 0, []⟩,
⟨(some 20), none, (.p (.mv (.tmp 0))), 0, []⟩,
⟨(some 21), none, (.p (.convInt .u8 (.tmp 20))), 0, []⟩,
⟨(some 22), none, (.p (.idxStr (.c (.str [0, 1, 2, 2, 3, 3, 3, 3, 4, 4, 4, 4, 4, 4, 4, 4, 5, 5, 5, 5, 5, 5, 5, 5, 5, 5, 5, 5, 5, 5, 5, 5, 6, 6, 6, 6, 6, 6, 6, 6, 6, 6, 6, 6, 6, 6, 6, 6, 6, 6, 6, 6, 6, 6, 6, 6, 6, 6, 6, 6, 6, 6, 6, 6, 7, 7, 7, 7, 7, 7, 7, 7, 7, 7, 7, 7, 7, 7, 7, 7, 7, 7, 7, 7, 7, 7, 7, 7, 7, 7, 7, 7, 7, 7, 7, 7, 7, 7, 7, 7, 7, 7, 7, 7, 7, 7, 7, 7, 7, 7, 7, 7, 7, 7, 7, 7, 7, 7, 7, 7, 7, 7, 7, 7, 7, 7, 7, 7, 8, 8, 8, 8, 8, 8, 8, 8, 8, 8, 8, 8, 8, 8, 8, 8, 8, 8, 8, 8, 8, 8, 8, 8, 8, 8, 8, 8, 8, 8, 8, 8, 8, 8, 8, 8, 8, 8, 8, 8, 8, 8, 8, 8, 8, 8, 8, 8, 8, 8, 8, 8, 8, 8, 8, 8, 8, 8, 8, 8, 8, 8, 8, 8, 8, 8, 8, 8, 8, 8, 8, 8, 8, 8, 8, 8, 8, 8, 8, 8, 8, 8, 8, 8, 8, 8, 8, 8, 8, 8, 8, 8, 8, 8, 8, 8, 8, 8, 8, 8, 8, 8, 8, 8, 8, 8, 8, 8, 8, 8, 8, 8, 8, 8, 8, 8, 8, 8, 8, 8, 8, 8, 8, 8, 8, 8, 8, 8])) (.tmp 21))), 0, []⟩,
⟨(some 23), none, (.p (.convInt .i64 (.tmp 22))), 0, []⟩,
⟨(some 24), none, (.p (.bin .add (.tmp 19) (.tmp 23))), 0, []⟩,
⟨(some 2), none, (.p (.mv (.tmp 24))), 0, []⟩])
.ret)))))⟩
theorem c79 : Mir.compF Tryd.prog Tryd.f79 = some g79 := by kernel_rfl
/-- internal/strconv.bool2[int] -/
def g80 : Mir.Fn := ⟨4, [(.tmp 2)],
(.seq
(.ops [⟨(some 2), none, (.p (.mv (.c (.int .i64 0)))), 0, []⟩])
(.seq
(.seq
(.ops [⟨(some 3), none, (.p (.mv (.tmp 0))), 0, []⟩])
(.cond (.tmp 3)
(.seq
(.ops [⟨(some 2), none, (.p (.mv (.c (.int .i64 1)))), 0, []⟩])
.ret)
.skip))
(.seq
(.ops [⟨(some 2), none, (.p (.mv (.c (.int .i64 0)))), 0, []⟩])
.ret)))⟩
theorem c80 : Mir.compF Tryd.prog Tryd.f80 = some g80 := by kernel_rfl
/-- internal/strconv.isPowerOfTwo -/
def g81 : Mir.Fn := ⟨8, [(.tmp 2)],
(.seq
(.ops [⟨(some 2), none, (.p (.mv (.c (.bool false)))), 0, []⟩])
(.seq
(.ops [⟨(some 3), none, (.p (.mv (.tmp 0))), 0, []⟩,
⟨(some 4), none, (.p (.mv (.tmp 0))), 0, []⟩,
⟨(some 5), none, (.p (.bin .sub (.tmp 4) (.c (.int .i64 1)))), 0, []⟩,
⟨(some 6), none, (.p (.bin .and (.tmp 3) (.tmp 5))), 0, []⟩,
⟨(some 7), none, (.p (.bin .eql (.tmp 6) (.c (.int .i64 0)))), 0, []⟩,
⟨(some 2), none, (.p (.mv (.tmp 7))), 0, []⟩])
.ret))⟩
theorem c81 : Mir.compF Tryd.prog Tryd.f81 = some g81 := by kernel_rfl
/-- math/bits.TrailingZeros -/
def g82 : Mir.Fn := ⟨8, [(.tmp 2)],
(.seq
(.ops [⟨(some 2), none, (.p (.mv (.c (.int .i64 0)))), 0, []⟩])
(.seq
(.cond (.c (.bool false))
(.seq
(.ops [⟨(some 3), none, (.p (.mv (.tmp 0))), 0, []⟩,
⟨(some 4), none, (.p (.convInt .u32 (.tmp 3))), 0, []⟩,
⟨(some 5), none, (.h (.call (.c (.fn 84 [] [])) [(.tmp 4)])), 0, []⟩,
⟨(some 2), none, (.p (.mv (.tmp 5))), 0, []⟩])
.ret)
.skip)
(.seq
(.ops [⟨(some 6), none, (.p (.mv (.tmp 0))), 0, []⟩,
⟨(some 7), none, (.h (.call (.c (.fn 85 [] [])) [(.tmp 6)])), 0, []⟩,
⟨(some 2), none, (.p (.mv (.tmp 7))), 0, []⟩])
.ret)))⟩
theorem c82 : Mir.compF Tryd.prog Tryd.f82 = some g82 := by kernel_rfl
/-- strings.indexFunc -/
def g83 : Mir.Fn := ⟨21, [(.tmp 6)],
(.seq
(.ops [⟨(some 6), none, (.p (.mv (.c (.int .i64 0)))), 0, []⟩])
(.seq
(.seq
(.ops [⟨(some 9), none, (.p (.mv (.tmp 0))), 0, []⟩,
⟨(some 10), none, (.h (.rangeStr (.tmp 9))), 0, []⟩])
(.block 0 (.loop (.seq
(.ops [⟨(some 11), none, (.h (.nextStr (.tmp 10))), 0, []⟩,
⟨(some 12), none, (.p (.ext (.tmp 11) 0)), 0, []⟩])
(.seq
(.cond (.tmp 12)
.skip
(.exit 0))
(.block 1 (.seq
(.ops [⟨(some 13), none, (.p (.ext (.tmp 11) 1)), 0, []⟩,
⟨(some 14), none, (.p (.ext (.tmp 11) 2)), 0, []⟩,
⟨(some 7), none, (.p (.mv (.tmp 13))), 0, []⟩,
⟨(some 8), none, (.p (.mv (.tmp 14))), 0, []⟩])
(.seq
(.ops [⟨(some 15), none, (.p (.mv (.tmp 1))), 0, []⟩,
⟨(some 16), none, (.p (.mv (.tmp 8))), 0, []⟩,
⟨(some 17), none, (.h (.call (.tmp 15) [(.tmp 16)])), 0, []⟩,
⟨(some 18), none, (.p (.mv (.tmp 2))), 0, []⟩,
⟨(some 19), none, (.p (.eq .bool false (.tmp 17) (.tmp 18))), 0, []⟩])
(.cond (.tmp 19)
(.seq
(.ops [⟨(some 20), none, (.p (.mv (.tmp 7))), 0, []⟩,
⟨(some 6), none, (.p (.mv (.tmp 20))), 0, []⟩])
.ret)
.skip)))))))))
(.seq
(.ops [⟨(some 6), none, (.p (.mv (.c (.int .i64 (-1))))), 0, []⟩])
.ret)))⟩
theorem c83 : Mir.compF Tryd.prog Tryd.f83 = some g83 := by kernel_rfl
/-- math/bits.TrailingZeros32 -/
def g84 : Mir.Fn := ⟨14, [(.tmp 2)],
(.seq
(.ops [⟨(some 2), none, (.p (.mv (.c (.int .i64 0)))), 0, []⟩])
(.seq
(.seq
(.ops [⟨(some 3), none, (.p (.mv (.tmp 0))), 0, []⟩,
⟨(some 4), none, (.p (.bin .eql (.tmp 3) (.c (.int .u32 0)))), 0, []⟩])
(.cond (.tmp 4)
(.seq
(.ops [⟨(some 2), none, (.p (.mv (.c (.int .i64 32)))), 0, []⟩])
.ret)
.skip))
(.seq
(.ops [⟨(some 5), none, (.p (.mv (.tmp 0))), 0, []⟩,
⟨(some 6), none, (.p (.mv (.tmp 0))), 0, []⟩,
⟨(some 7), none, (.p (.un .neg (.tmp 6))), 0, []⟩,
⟨(some 8), none, (.p (.bin .and (.tmp 5) (.tmp 7))), 0, []⟩,
⟨(some 9), none, (.p (.bin .mul (.tmp 8) (.c (.int .u32 125613361)))), 0, []⟩,
⟨(some 10), none, (.p (.bin .shr (.tmp 9) (.c (.int .u64 27)))), 0, []⟩,
⟨(some 11), none, (.p (.idxArr 32 1 (.glob 4) (.tmp 10))), 0, []⟩,
⟨(some 12), none, (.r (.load 1 false (.tmp 11))), 0, []⟩,
⟨(some 13), none, (.p (.convInt .i64 (.tmp 12))), 0, []⟩,
⟨(some 2), none, (.p (.mv (.tmp 13))), 0, []⟩])
.ret)))⟩
theorem c84 : Mir.compF Tryd.prog Tryd.f84 = some g84 := by kernel_rfl
/-- math/bits.TrailingZeros64 -/
def g85 : Mir.Fn := ⟨14, [(.tmp 2)],
(.seq
(.ops [⟨(some 2), none, (.p (.mv (.c (.int .i64 0)))), 0, []⟩])
(.seq
(.seq
(.ops [⟨(some 3), none, (.p (.mv (.tmp 0))), 0, []⟩,
⟨(some 4), none, (.p (.bin .eql (.tmp 3) (.c (.int .u64 0)))), 0, []⟩])
(.cond (.tmp 4)
(.seq
(.ops [⟨(some 2), none, (.p (.mv (.c (.int .i64 64)))), 0, []⟩])
.ret)
.skip))
(.seq
(.ops [⟨(some 5), none, (.p (.mv (.tmp 0))), 0, []⟩,
⟨(some 6), none, (.p (.mv (.tmp 0))), 0, []⟩,
⟨(some 7), none, (.p (.un .neg (.tmp 6))), 0, []⟩,
⟨(some 8), none, (.p (.bin .and (.tmp 5) (.tmp 7))), 0, []⟩,
⟨(some 9), none, (.p (.bin .mul (.tmp 8) (.c (.int .u64 285870213051353865)))), 0, []⟩,
⟨(some 10), none, (.p (.bin .shr (.tmp 9) (.c (.int .u64 58)))), 0, []⟩,
⟨(some 11), none, (.p (.idxArr 64 1 (.glob 5) (.tmp 10))), 0, []⟩,
⟨(some 12), none, (.r (.load 1 false (.tmp 11))), 0, []⟩,
⟨(some 13), none, (.p (.convInt .i64 (.tmp 12))), 0, []⟩,
⟨(some 2), none, (.p (.mv (.tmp 13))), 0, []⟩])
.ret)))⟩
theorem c85 : Mir.compF Tryd.prog Tryd.f85 = some g85 := by kernel_rfl
end Go.Proofs.YtijipnkdabdioaaDoor
