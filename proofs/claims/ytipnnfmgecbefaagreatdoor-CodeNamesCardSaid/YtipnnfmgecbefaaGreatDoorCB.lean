/- CodeNames: closed runs, and what is outside. -/
import Derived.Test.YtipnnfmgecbefaaGreatDoorCA
set_option linter.unusedSimpArgs false
set_option linter.unusedVariables false
namespace Go.Proofs.YtipnnfmgecbefaaGreatDoor
open Mir
variable {Q : V → H → Prop} {m : Int}
/-- A closed call of a law that is true. -/
theorem law_run {g : Nat} {args : List V} (hr : quick ipA BC g args 1000 isT = true) (hl : lits args = true) (hq : ∀ h', Q (.bool true) h') : AC pg (.fn g) args (hC m) Q := by
  have hi := ipA_ok (G := hC m) (m := m) fun b o hb => hb
  exact closedI hi hr hl (fun b o hb => hb) fun f v w h' hp hv hk => by rw [isT_of hp hv]; exact hq h'
theorem name0 : quick ipA BC 5 [.int .i64 0] 1000 isT = true := by kernel_rfl
theorem name1 : quick ipA BC 5 [.int .i64 1] 1000 isT = true := by kernel_rfl
theorem name2 : quick ipA BC 5 [.int .i64 2] 1000 isT = true := by kernel_rfl
theorem name3 : quick ipA BC 5 [.int .i64 3] 1000 isT = true := by kernel_rfl
theorem name4 : quick ipA BC 5 [.int .i64 4] 1000 isT = true := by kernel_rfl
theorem name5 : quick ipA BC 5 [.int .i64 5] 1000 isT = true := by kernel_rfl
theorem name6 : quick ipA BC 5 [.int .i64 6] 1000 isT = true := by kernel_rfl
theorem name7 : quick ipA BC 5 [.int .i64 7] 1000 isT = true := by kernel_rfl
theorem name8 : quick ipA BC 5 [.int .i64 8] 1000 isT = true := by kernel_rfl
theorem name9 : quick ipA BC 5 [.int .i64 9] 1000 isT = true := by kernel_rfl
theorem name10 : quick ipA BC 5 [.int .i64 10] 1000 isT = true := by kernel_rfl
theorem names_ac (n : Int) (hq : ∀ h', Q (.bool true) h') : AC pg (.fn 5) [.int .i64 n] (hC m) Q := by
  by_cases c : 0 ≤ n ∧ n < 11
  · have : n = 0 ∨ n = 1 ∨ n = 2 ∨ n = 3 ∨ n = 4 ∨ n = 5 ∨ n = 6 ∨ n = 7 ∨ n = 8 ∨ n = 9 ∨ n = 10 := by omega
    rcases this with rfl | rfl | rfl | rfl | rfl | rfl | rfl | rfl | rfl | rfl | rfl
    · exact law_run name0 rfl hq
    · exact law_run name1 rfl hq
    · exact law_run name2 rfl hq
    · exact law_run name3 rfl hq
    · exact law_run name4 rfl hq
    · exact law_run name5 rfl hq
    · exact law_run name6 rfl hq
    · exact law_run name7 rfl hq
    · exact law_run name8 rfl hq
    · exact law_run name9 rfl hq
    · exact law_run name10 rfl hq
  · have h604 : hC m 1 = some (.cells [.sl 604 0 1 11] true) := rfl
    refine AC.fn' (g := g5) rfl (by simp only [List.length_cons, List.length_nil, g5]; decide) ?_; simp only [g5]
    ((try simp -implicitDefEqProofs only [later, laterE, laterD, laterR]); (repeat (first | simp -implicitDefEqProofs only [go_sem, ↓reduceIte, Nat.reduceEqDiff, Nat.reduceAdd, Nat.reduceLeDiff, Nat.reduceLT, Nat.reduceMul, reduceCtorEq, Int.reduceEq, Int.reduceLT, Int.reduceLE, Int.reduceNeg, Int.reduceToNat, Int.reduceMul, Int.reduceAdd, Int.reduceSub] | simp (disch := (first | omega | (simp only [go_sem]; done) | (simp only [lens]; omega))) only [cds])))
    refine AC.fn' (g := g12) rfl (by simp only [List.length_cons, List.length_nil, g12]; decide) ?_; simp only [g12]
    ((try simp -implicitDefEqProofs only [later, laterE, laterD, laterR]); (repeat (first | simp -implicitDefEqProofs only [go_sem, ↓reduceIte, Nat.reduceEqDiff, Nat.reduceAdd, Nat.reduceLeDiff, Nat.reduceLT, Nat.reduceMul, reduceCtorEq, Int.reduceEq, Int.reduceLT, Int.reduceLE, Int.reduceNeg, Int.reduceToNat, Int.reduceMul, Int.reduceAdd, Int.reduceSub] | simp (disch := (first | omega | (simp only [go_sem]; done) | (simp only [lens]; omega))) only [cds])))
    intro b0 hb0
    ((try simp -implicitDefEqProofs only [later, laterE, laterD, laterR]); (repeat (first | simp -implicitDefEqProofs only [go_sem, ↓reduceIte, Nat.reduceEqDiff, Nat.reduceAdd, Nat.reduceLeDiff, Nat.reduceLT, Nat.reduceMul, reduceCtorEq, Int.reduceEq, Int.reduceLT, Int.reduceLE, Int.reduceNeg, Int.reduceToNat, Int.reduceMul, Int.reduceAdd, Int.reduceSub] | simp (disch := (first | omega | (simp only [go_sem]; done) | (simp only [lens]; omega))) only [cds])))
    refine ⟨_, Sub.refl, ?_⟩
    by_cases c0 : n < 0
    · ((try simp -implicitDefEqProofs only [later, laterE, laterD, laterR]); (repeat (first | simp -implicitDefEqProofs only [go_sem, ↓reduceIte, Nat.reduceEqDiff, Nat.reduceAdd, Nat.reduceLeDiff, Nat.reduceLT, Nat.reduceMul, reduceCtorEq, Int.reduceEq, Int.reduceLT, Int.reduceLE, Int.reduceNeg, Int.reduceToNat, Int.reduceMul, Int.reduceAdd, Int.reduceSub] | simp (disch := (first | omega | (simp only [go_sem]; done) | (simp only [lens]; omega))) only [cds])))
      refine awake15_ac (m := m) (Sub.refl.put hb0) fun h' s => ?_
      have hn := s 1 (.cells [.sl 604 0 1 11] true) (by rw [hadd_ne' (fun e => by rw [← e, h604] at hb0; cases hb0)]; rfl)
      ((try simp -implicitDefEqProofs only [later, laterE, laterD, laterR]); (repeat (first | simp -implicitDefEqProofs only [go_sem, ↓reduceIte, Nat.reduceEqDiff, Nat.reduceAdd, Nat.reduceLeDiff, Nat.reduceLT, Nat.reduceMul, reduceCtorEq, Int.reduceEq, Int.reduceLT, Int.reduceLE, Int.reduceNeg, Int.reduceToNat, Int.reduceMul, Int.reduceAdd, Int.reduceSub] | simp (disch := (first | omega | (simp only [go_sem]; done) | (simp only [lens]; omega))) only [cds])))
      refine AC.fn' (g := g13) rfl (by simp only [List.length_cons, List.length_nil, g13]; decide) ?_; simp only [g13]
      ((try simp -implicitDefEqProofs only [later, laterE, laterD, laterR]); (repeat (first | simp -implicitDefEqProofs only [go_sem, ↓reduceIte, Nat.reduceEqDiff, Nat.reduceAdd, Nat.reduceLeDiff, Nat.reduceLT, Nat.reduceMul, reduceCtorEq, Int.reduceEq, Int.reduceLT, Int.reduceLE, Int.reduceNeg, Int.reduceToNat, Int.reduceMul, Int.reduceAdd, Int.reduceSub, hn] | simp (disch := (first | omega | (simp only [go_sem]; done) | (simp only [lens]; omega))) only [cds, hn])))
      refine ⟨_, Sub.refl, ?_⟩
      ((try simp -implicitDefEqProofs only [later, laterE, laterD, laterR]); (repeat (first | simp -implicitDefEqProofs only [go_sem, ↓reduceIte, Nat.reduceEqDiff, Nat.reduceAdd, Nat.reduceLeDiff, Nat.reduceLT, Nat.reduceMul, reduceCtorEq, Int.reduceEq, Int.reduceLT, Int.reduceLE, Int.reduceNeg, Int.reduceToNat, Int.reduceMul, Int.reduceAdd, Int.reduceSub] | simp (disch := (first | omega | (simp only [go_sem]; done) | (simp only [lens]; omega))) only [cds])))
      exact ⟨_, Sub.refl, hq _⟩
    · have c1 : 11 ≤ n := by omega
      ((try simp -implicitDefEqProofs only [later, laterE, laterD, laterR]); (repeat (first | simp -implicitDefEqProofs only [go_sem, ↓reduceIte, Nat.reduceEqDiff, Nat.reduceAdd, Nat.reduceLeDiff, Nat.reduceLT, Nat.reduceMul, reduceCtorEq, Int.reduceEq, Int.reduceLT, Int.reduceLE, Int.reduceNeg, Int.reduceToNat, Int.reduceMul, Int.reduceAdd, Int.reduceSub] | simp (disch := (first | omega | (simp only [go_sem]; done) | (simp only [lens]; omega))) only [cds])))
      refine awake15_ac (m := m) (Sub.refl.put hb0) fun h' s => ?_
      have hn := s 1 (.cells [.sl 604 0 1 11] true) (by rw [hadd_ne' (fun e => by rw [← e, h604] at hb0; cases hb0)]; rfl)
      ((try simp -implicitDefEqProofs only [later, laterE, laterD, laterR]); (repeat (first | simp -implicitDefEqProofs only [go_sem, ↓reduceIte, Nat.reduceEqDiff, Nat.reduceAdd, Nat.reduceLeDiff, Nat.reduceLT, Nat.reduceMul, reduceCtorEq, Int.reduceEq, Int.reduceLT, Int.reduceLE, Int.reduceNeg, Int.reduceToNat, Int.reduceMul, Int.reduceAdd, Int.reduceSub] | simp (disch := (first | omega | (simp only [go_sem]; done) | (simp only [lens]; omega))) only [cds])))
      refine AC.fn' (g := g13) rfl (by simp only [List.length_cons, List.length_nil, g13]; decide) ?_; simp only [g13]
      ((try simp -implicitDefEqProofs only [later, laterE, laterD, laterR]); (repeat (first | simp -implicitDefEqProofs only [go_sem, ↓reduceIte, Nat.reduceEqDiff, Nat.reduceAdd, Nat.reduceLeDiff, Nat.reduceLT, Nat.reduceMul, reduceCtorEq, Int.reduceEq, Int.reduceLT, Int.reduceLE, Int.reduceNeg, Int.reduceToNat, Int.reduceMul, Int.reduceAdd, Int.reduceSub, hn] | simp (disch := (first | omega | (simp only [go_sem]; done) | (simp only [lens]; omega))) only [cds, hn])))
      refine ⟨_, Sub.refl, ?_⟩
      ((try simp -implicitDefEqProofs only [later, laterE, laterD, laterR]); (repeat (first | simp -implicitDefEqProofs only [go_sem, ↓reduceIte, Nat.reduceEqDiff, Nat.reduceAdd, Nat.reduceLeDiff, Nat.reduceLT, Nat.reduceMul, reduceCtorEq, Int.reduceEq, Int.reduceLT, Int.reduceLE, Int.reduceNeg, Int.reduceToNat, Int.reduceMul, Int.reduceAdd, Int.reduceSub] | simp (disch := (first | omega | (simp only [go_sem]; done) | (simp only [lens]; omega))) only [cds])))
      exact ⟨_, Sub.refl, hq _⟩
end Go.Proofs.YtipnnfmgecbefaaGreatDoor
