/- ParseOrder: closed runs, 2. -/
import Derived.Test.YtkfbldogmgofoaaGreatDoorPA
set_option linter.unusedSimpArgs false
set_option linter.unusedVariables false
namespace Go.Proofs.YtkfbldogmgofoaaGreatDoor
open Mir
theorem ord5_0 : quick ipA BP 12 [.int .i64 5, .int .i64 0] 1000 isT = true := by kernel_rfl
theorem ord5_1 : quick ipA BP 12 [.int .i64 5, .int .i64 1] 1000 isT = true := by kernel_rfl
theorem ord5_2 : quick ipA BP 12 [.int .i64 5, .int .i64 2] 1000 isT = true := by kernel_rfl
theorem ord5_3 : quick ipA BP 12 [.int .i64 5, .int .i64 3] 1000 isT = true := by kernel_rfl
theorem ord5_4 : quick ipA BP 12 [.int .i64 5, .int .i64 4] 1000 isT = true := by kernel_rfl
theorem ord5_5 : quick ipA BP 12 [.int .i64 5, .int .i64 5] 1000 isT = true := by kernel_rfl
theorem ord5_6 : quick ipA BP 12 [.int .i64 5, .int .i64 6] 1000 isT = true := by kernel_rfl
theorem ord5_7 : quick ipA BP 12 [.int .i64 5, .int .i64 7] 1000 isT = true := by kernel_rfl
theorem ord5_8 : quick ipA BP 12 [.int .i64 5, .int .i64 8] 1000 isT = true := by kernel_rfl
theorem ord5_9 : quick ipA BP 12 [.int .i64 5, .int .i64 9] 1000 isT = true := by kernel_rfl
theorem ord6_0 : quick ipA BP 12 [.int .i64 6, .int .i64 0] 1000 isT = true := by kernel_rfl
theorem ord6_1 : quick ipA BP 12 [.int .i64 6, .int .i64 1] 1000 isT = true := by kernel_rfl
theorem ord6_2 : quick ipA BP 12 [.int .i64 6, .int .i64 2] 1000 isT = true := by kernel_rfl
theorem ord6_3 : quick ipA BP 12 [.int .i64 6, .int .i64 3] 1000 isT = true := by kernel_rfl
theorem ord6_4 : quick ipA BP 12 [.int .i64 6, .int .i64 4] 1000 isT = true := by kernel_rfl
theorem ord6_5 : quick ipA BP 12 [.int .i64 6, .int .i64 5] 1000 isT = true := by kernel_rfl
theorem ord6_6 : quick ipA BP 12 [.int .i64 6, .int .i64 6] 1000 isT = true := by kernel_rfl
theorem ord6_7 : quick ipA BP 12 [.int .i64 6, .int .i64 7] 1000 isT = true := by kernel_rfl
theorem ord6_8 : quick ipA BP 12 [.int .i64 6, .int .i64 8] 1000 isT = true := by kernel_rfl
theorem ord6_9 : quick ipA BP 12 [.int .i64 6, .int .i64 9] 1000 isT = true := by kernel_rfl
theorem ord7_0 : quick ipA BP 12 [.int .i64 7, .int .i64 0] 1000 isT = true := by kernel_rfl
theorem ord7_1 : quick ipA BP 12 [.int .i64 7, .int .i64 1] 1000 isT = true := by kernel_rfl
theorem ord7_2 : quick ipA BP 12 [.int .i64 7, .int .i64 2] 1000 isT = true := by kernel_rfl
theorem ord7_3 : quick ipA BP 12 [.int .i64 7, .int .i64 3] 1000 isT = true := by kernel_rfl
theorem ord7_4 : quick ipA BP 12 [.int .i64 7, .int .i64 4] 1000 isT = true := by kernel_rfl
end Go.Proofs.YtkfbldogmgofoaaGreatDoor
