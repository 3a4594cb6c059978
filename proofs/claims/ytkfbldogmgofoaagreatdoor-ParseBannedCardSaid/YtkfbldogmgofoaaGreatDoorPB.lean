/- ParseBanned: closed runs, and what is outside. -/
import Derived.Test.YtkfbldogmgofoaaGreatDoorPA
set_option linter.unusedSimpArgs false
set_option linter.unusedVariables false
namespace Go.Proofs.YtkfbldogmgofoaaGreatDoor
open Mir
variable {Q : V → H → Prop} {m : Int}
theorem ban0 : quick ipA BP 7 [.int .i64 0] 1000 isT = true := by kernel_rfl
theorem ban1 : quick ipA BP 7 [.int .i64 1] 1000 isT = true := by kernel_rfl
theorem ban2 : quick ipA BP 7 [.int .i64 2] 1000 isT = true := by kernel_rfl
theorem ban3 : quick ipA BP 7 [.int .i64 3] 1000 isT = true := by kernel_rfl
theorem ban4 : quick ipA BP 7 [.int .i64 4] 1000 isT = true := by kernel_rfl
theorem ban5 : quick ipA BP 7 [.int .i64 5] 1000 isT = true := by kernel_rfl
theorem banned_ac (n : Int) (hq : ∀ h', Q (.bool true) h') : AC pg (.fn 7) [.int .i64 n] (hP m) Q := by
  by_cases c : n = 0 ∨ n = 1 ∨ n = 2 ∨ n = 3 ∨ n = 4 ∨ n = 5
  · rcases c with rfl | rfl | rfl | rfl | rfl | rfl
    · exact law_run ban0 rfl hq
    · exact law_run ban1 rfl hq
    · exact law_run ban2 rfl hq
    · exact law_run ban3 rfl hq
    · exact law_run ban4 rfl hq
    · exact law_run ban5 rfl hq
  · refine AC.fn' (g := g7) rfl (by simp only [List.length_cons, List.length_nil, g7]; decide) ?_; simp only [g7]
    by_cases c0 : n < 0
    · ((try simp -implicitDefEqProofs only [later, laterE, laterD, laterR]); (repeat (first | simp -implicitDefEqProofs only [go_sem, ↓reduceIte, Nat.reduceEqDiff, Nat.reduceAdd, Nat.reduceLeDiff, Nat.reduceLT, Nat.reduceMul, reduceCtorEq, Int.reduceEq, Int.reduceLT, Int.reduceLE, Int.reduceNeg, Int.reduceToNat, Int.reduceMul, Int.reduceAdd, Int.reduceSub] | simp (disch := (first | omega | (simp only [go_sem]; done) | (simp only [lens]; omega))) only [cds])))
      intro b0 hb0
      ((try simp -implicitDefEqProofs only [later, laterE, laterD, laterR]); (repeat (first | simp -implicitDefEqProofs only [go_sem, ↓reduceIte, Nat.reduceEqDiff, Nat.reduceAdd, Nat.reduceLeDiff, Nat.reduceLT, Nat.reduceMul, reduceCtorEq, Int.reduceEq, Int.reduceLT, Int.reduceLE, Int.reduceNeg, Int.reduceToNat, Int.reduceMul, Int.reduceAdd, Int.reduceSub] | simp (disch := (first | omega | (simp only [go_sem]; done) | (simp only [lens]; omega))) only [cds])))
      refine awake13_ac (m := m) (Sub.refl.put hb0) fun h' s => ?_
      ((try simp -implicitDefEqProofs only [later, laterE, laterD, laterR]); (repeat (first | simp -implicitDefEqProofs only [go_sem, ↓reduceIte, Nat.reduceEqDiff, Nat.reduceAdd, Nat.reduceLeDiff, Nat.reduceLT, Nat.reduceMul, reduceCtorEq, Int.reduceEq, Int.reduceLT, Int.reduceLE, Int.reduceNeg, Int.reduceToNat, Int.reduceMul, Int.reduceAdd, Int.reduceSub] | simp (disch := (first | omega | (simp only [go_sem]; done) | (simp only [lens]; omega))) only [cds])))
      exact ⟨_, Sub.refl, hq _⟩
    · have c1 : 6 ≤ n := by omega
      ((try simp -implicitDefEqProofs only [later, laterE, laterD, laterR]); (repeat (first | simp -implicitDefEqProofs only [go_sem, ↓reduceIte, Nat.reduceEqDiff, Nat.reduceAdd, Nat.reduceLeDiff, Nat.reduceLT, Nat.reduceMul, reduceCtorEq, Int.reduceEq, Int.reduceLT, Int.reduceLE, Int.reduceNeg, Int.reduceToNat, Int.reduceMul, Int.reduceAdd, Int.reduceSub] | simp (disch := (first | omega | (simp only [go_sem]; done) | (simp only [lens]; omega))) only [cds])))
      intro b0 hb0
      ((try simp -implicitDefEqProofs only [later, laterE, laterD, laterR]); (repeat (first | simp -implicitDefEqProofs only [go_sem, ↓reduceIte, Nat.reduceEqDiff, Nat.reduceAdd, Nat.reduceLeDiff, Nat.reduceLT, Nat.reduceMul, reduceCtorEq, Int.reduceEq, Int.reduceLT, Int.reduceLE, Int.reduceNeg, Int.reduceToNat, Int.reduceMul, Int.reduceAdd, Int.reduceSub] | simp (disch := (first | omega | (simp only [go_sem]; done) | (simp only [lens]; omega))) only [cds])))
      refine awake13_ac (m := m) (Sub.refl.put hb0) fun h' s => ?_
      ((try simp -implicitDefEqProofs only [later, laterE, laterD, laterR]); (repeat (first | simp -implicitDefEqProofs only [go_sem, ↓reduceIte, Nat.reduceEqDiff, Nat.reduceAdd, Nat.reduceLeDiff, Nat.reduceLT, Nat.reduceMul, reduceCtorEq, Int.reduceEq, Int.reduceLT, Int.reduceLE, Int.reduceNeg, Int.reduceToNat, Int.reduceMul, Int.reduceAdd, Int.reduceSub] | simp (disch := (first | omega | (simp only [go_sem]; done) | (simp only [lens]; omega))) only [cds])))
      exact ⟨_, Sub.refl, hq _⟩
end Go.Proofs.YtkfbldogmgofoaaGreatDoor
