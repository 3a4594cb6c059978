/- ParseOrder: closed runs, 0. -/
import Derived.Test.YtkfbldogmgofoaaGreatDoorPA
set_option linter.unusedSimpArgs false
set_option linter.unusedVariables false
namespace Go.Proofs.YtkfbldogmgofoaaGreatDoor
open Mir
theorem ord0_0 : quick ipA BP 12 [.int .i64 0, .int .i64 0] 1000 isT = true := by kernel_rfl
theorem ord0_1 : quick ipA BP 12 [.int .i64 0, .int .i64 1] 1000 isT = true := by kernel_rfl
theorem ord0_2 : quick ipA BP 12 [.int .i64 0, .int .i64 2] 1000 isT = true := by kernel_rfl
theorem ord0_3 : quick ipA BP 12 [.int .i64 0, .int .i64 3] 1000 isT = true := by kernel_rfl
theorem ord0_4 : quick ipA BP 12 [.int .i64 0, .int .i64 4] 1000 isT = true := by kernel_rfl
theorem ord0_5 : quick ipA BP 12 [.int .i64 0, .int .i64 5] 1000 isT = true := by kernel_rfl
theorem ord0_6 : quick ipA BP 12 [.int .i64 0, .int .i64 6] 1000 isT = true := by kernel_rfl
theorem ord0_7 : quick ipA BP 12 [.int .i64 0, .int .i64 7] 1000 isT = true := by kernel_rfl
theorem ord0_8 : quick ipA BP 12 [.int .i64 0, .int .i64 8] 1000 isT = true := by kernel_rfl
theorem ord0_9 : quick ipA BP 12 [.int .i64 0, .int .i64 9] 1000 isT = true := by kernel_rfl
theorem ord1_0 : quick ipA BP 12 [.int .i64 1, .int .i64 0] 1000 isT = true := by kernel_rfl
theorem ord1_1 : quick ipA BP 12 [.int .i64 1, .int .i64 1] 1000 isT = true := by kernel_rfl
theorem ord1_2 : quick ipA BP 12 [.int .i64 1, .int .i64 2] 1000 isT = true := by kernel_rfl
theorem ord1_3 : quick ipA BP 12 [.int .i64 1, .int .i64 3] 1000 isT = true := by kernel_rfl
theorem ord1_4 : quick ipA BP 12 [.int .i64 1, .int .i64 4] 1000 isT = true := by kernel_rfl
theorem ord1_5 : quick ipA BP 12 [.int .i64 1, .int .i64 5] 1000 isT = true := by kernel_rfl
theorem ord1_6 : quick ipA BP 12 [.int .i64 1, .int .i64 6] 1000 isT = true := by kernel_rfl
theorem ord1_7 : quick ipA BP 12 [.int .i64 1, .int .i64 7] 1000 isT = true := by kernel_rfl
theorem ord1_8 : quick ipA BP 12 [.int .i64 1, .int .i64 8] 1000 isT = true := by kernel_rfl
theorem ord1_9 : quick ipA BP 12 [.int .i64 1, .int .i64 9] 1000 isT = true := by kernel_rfl
theorem ord2_0 : quick ipA BP 12 [.int .i64 2, .int .i64 0] 1000 isT = true := by kernel_rfl
theorem ord2_1 : quick ipA BP 12 [.int .i64 2, .int .i64 1] 1000 isT = true := by kernel_rfl
theorem ord2_2 : quick ipA BP 12 [.int .i64 2, .int .i64 2] 1000 isT = true := by kernel_rfl
theorem ord2_3 : quick ipA BP 12 [.int .i64 2, .int .i64 3] 1000 isT = true := by kernel_rfl
theorem ord2_4 : quick ipA BP 12 [.int .i64 2, .int .i64 4] 1000 isT = true := by kernel_rfl
end Go.Proofs.YtkfbldogmgofoaaGreatDoor
