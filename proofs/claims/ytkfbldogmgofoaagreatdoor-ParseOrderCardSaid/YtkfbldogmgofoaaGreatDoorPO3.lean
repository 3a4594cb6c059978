/- ParseOrder: closed runs, 3. -/
import Derived.Test.YtkfbldogmgofoaaGreatDoorPA
set_option linter.unusedSimpArgs false
set_option linter.unusedVariables false
namespace Go.Proofs.YtkfbldogmgofoaaGreatDoor
open Mir
theorem ord7_5 : quick ipA BP 12 [.int .i64 7, .int .i64 5] 1000 isT = true := by kernel_rfl
theorem ord7_6 : quick ipA BP 12 [.int .i64 7, .int .i64 6] 1000 isT = true := by kernel_rfl
theorem ord7_7 : quick ipA BP 12 [.int .i64 7, .int .i64 7] 1000 isT = true := by kernel_rfl
theorem ord7_8 : quick ipA BP 12 [.int .i64 7, .int .i64 8] 1000 isT = true := by kernel_rfl
theorem ord7_9 : quick ipA BP 12 [.int .i64 7, .int .i64 9] 1000 isT = true := by kernel_rfl
theorem ord8_0 : quick ipA BP 12 [.int .i64 8, .int .i64 0] 1000 isT = true := by kernel_rfl
theorem ord8_1 : quick ipA BP 12 [.int .i64 8, .int .i64 1] 1000 isT = true := by kernel_rfl
theorem ord8_2 : quick ipA BP 12 [.int .i64 8, .int .i64 2] 1000 isT = true := by kernel_rfl
theorem ord8_3 : quick ipA BP 12 [.int .i64 8, .int .i64 3] 1000 isT = true := by kernel_rfl
theorem ord8_4 : quick ipA BP 12 [.int .i64 8, .int .i64 4] 1000 isT = true := by kernel_rfl
theorem ord8_5 : quick ipA BP 12 [.int .i64 8, .int .i64 5] 1000 isT = true := by kernel_rfl
theorem ord8_6 : quick ipA BP 12 [.int .i64 8, .int .i64 6] 1000 isT = true := by kernel_rfl
theorem ord8_7 : quick ipA BP 12 [.int .i64 8, .int .i64 7] 1000 isT = true := by kernel_rfl
theorem ord8_8 : quick ipA BP 12 [.int .i64 8, .int .i64 8] 1000 isT = true := by kernel_rfl
theorem ord8_9 : quick ipA BP 12 [.int .i64 8, .int .i64 9] 1000 isT = true := by kernel_rfl
theorem ord9_0 : quick ipA BP 12 [.int .i64 9, .int .i64 0] 1000 isT = true := by kernel_rfl
theorem ord9_1 : quick ipA BP 12 [.int .i64 9, .int .i64 1] 1000 isT = true := by kernel_rfl
theorem ord9_2 : quick ipA BP 12 [.int .i64 9, .int .i64 2] 1000 isT = true := by kernel_rfl
theorem ord9_3 : quick ipA BP 12 [.int .i64 9, .int .i64 3] 1000 isT = true := by kernel_rfl
theorem ord9_4 : quick ipA BP 12 [.int .i64 9, .int .i64 4] 1000 isT = true := by kernel_rfl
theorem ord9_5 : quick ipA BP 12 [.int .i64 9, .int .i64 5] 1000 isT = true := by kernel_rfl
theorem ord9_6 : quick ipA BP 12 [.int .i64 9, .int .i64 6] 1000 isT = true := by kernel_rfl
theorem ord9_7 : quick ipA BP 12 [.int .i64 9, .int .i64 7] 1000 isT = true := by kernel_rfl
theorem ord9_8 : quick ipA BP 12 [.int .i64 9, .int .i64 8] 1000 isT = true := by kernel_rfl
theorem ord9_9 : quick ipA BP 12 [.int .i64 9, .int .i64 9] 1000 isT = true := by kernel_rfl
end Go.Proofs.YtkfbldogmgofoaaGreatDoor
