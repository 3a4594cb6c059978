/- ParseOrder: closed runs, 1. -/
import Derived.Test.YtkfbldogmgofoaaGreatDoorPA
set_option linter.unusedSimpArgs false
set_option linter.unusedVariables false
namespace Go.Proofs.YtkfbldogmgofoaaGreatDoor
open Mir
theorem ord2_5 : quick ipA BP 12 [.int .i64 2, .int .i64 5] 1000 isT = true := by kernel_rfl
theorem ord2_6 : quick ipA BP 12 [.int .i64 2, .int .i64 6] 1000 isT = true := by kernel_rfl
theorem ord2_7 : quick ipA BP 12 [.int .i64 2, .int .i64 7] 1000 isT = true := by kernel_rfl
theorem ord2_8 : quick ipA BP 12 [.int .i64 2, .int .i64 8] 1000 isT = true := by kernel_rfl
theorem ord2_9 : quick ipA BP 12 [.int .i64 2, .int .i64 9] 1000 isT = true := by kernel_rfl
theorem ord3_0 : quick ipA BP 12 [.int .i64 3, .int .i64 0] 1000 isT = true := by kernel_rfl
theorem ord3_1 : quick ipA BP 12 [.int .i64 3, .int .i64 1] 1000 isT = true := by kernel_rfl
theorem ord3_2 : quick ipA BP 12 [.int .i64 3, .int .i64 2] 1000 isT = true := by kernel_rfl
theorem ord3_3 : quick ipA BP 12 [.int .i64 3, .int .i64 3] 1000 isT = true := by kernel_rfl
theorem ord3_4 : quick ipA BP 12 [.int .i64 3, .int .i64 4] 1000 isT = true := by kernel_rfl
theorem ord3_5 : quick ipA BP 12 [.int .i64 3, .int .i64 5] 1000 isT = true := by kernel_rfl
theorem ord3_6 : quick ipA BP 12 [.int .i64 3, .int .i64 6] 1000 isT = true := by kernel_rfl
theorem ord3_7 : quick ipA BP 12 [.int .i64 3, .int .i64 7] 1000 isT = true := by kernel_rfl
theorem ord3_8 : quick ipA BP 12 [.int .i64 3, .int .i64 8] 1000 isT = true := by kernel_rfl
theorem ord3_9 : quick ipA BP 12 [.int .i64 3, .int .i64 9] 1000 isT = true := by kernel_rfl
theorem ord4_0 : quick ipA BP 12 [.int .i64 4, .int .i64 0] 1000 isT = true := by kernel_rfl
theorem ord4_1 : quick ipA BP 12 [.int .i64 4, .int .i64 1] 1000 isT = true := by kernel_rfl
theorem ord4_2 : quick ipA BP 12 [.int .i64 4, .int .i64 2] 1000 isT = true := by kernel_rfl
theorem ord4_3 : quick ipA BP 12 [.int .i64 4, .int .i64 3] 1000 isT = true := by kernel_rfl
theorem ord4_4 : quick ipA BP 12 [.int .i64 4, .int .i64 4] 1000 isT = true := by kernel_rfl
theorem ord4_5 : quick ipA BP 12 [.int .i64 4, .int .i64 5] 1000 isT = true := by kernel_rfl
theorem ord4_6 : quick ipA BP 12 [.int .i64 4, .int .i64 6] 1000 isT = true := by kernel_rfl
theorem ord4_7 : quick ipA BP 12 [.int .i64 4, .int .i64 7] 1000 isT = true := by kernel_rfl
theorem ord4_8 : quick ipA BP 12 [.int .i64 4, .int .i64 8] 1000 isT = true := by kernel_rfl
theorem ord4_9 : quick ipA BP 12 [.int .i64 4, .int .i64 9] 1000 isT = true := by kernel_rfl
end Go.Proofs.YtkfbldogmgofoaaGreatDoor
