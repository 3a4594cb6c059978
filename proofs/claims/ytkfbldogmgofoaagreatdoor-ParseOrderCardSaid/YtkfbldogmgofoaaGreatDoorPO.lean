/- ParseOrder: all runs, and what is outside. -/
import Derived.Test.YtkfbldogmgofoaaGreatDoorPO0
import Derived.Test.YtkfbldogmgofoaaGreatDoorPO1
import Derived.Test.YtkfbldogmgofoaaGreatDoorPO2
import Derived.Test.YtkfbldogmgofoaaGreatDoorPO3
set_option linter.unusedSimpArgs false
set_option linter.unusedVariables false
namespace Go.Proofs.YtkfbldogmgofoaaGreatDoor
open Mir
variable {Q : V → H → Prop} {m : Int}
theorem ordR0 (b : Int) (h0 : 0 ≤ b) (h1 : b < 10) (hq : ∀ h', Q (.bool true) h') : AC pg (.fn 12) [.int .i64 0, .int .i64 b] (hP m) Q := by
  have c : b = 0 ∨ b = 1 ∨ b = 2 ∨ b = 3 ∨ b = 4 ∨ b = 5 ∨ b = 6 ∨ b = 7 ∨ b = 8 ∨ b = 9 := by omega
  rcases c with rfl | rfl | rfl | rfl | rfl | rfl | rfl | rfl | rfl | rfl
  · exact law_run ord0_0 rfl hq
  · exact law_run ord0_1 rfl hq
  · exact law_run ord0_2 rfl hq
  · exact law_run ord0_3 rfl hq
  · exact law_run ord0_4 rfl hq
  · exact law_run ord0_5 rfl hq
  · exact law_run ord0_6 rfl hq
  · exact law_run ord0_7 rfl hq
  · exact law_run ord0_8 rfl hq
  · exact law_run ord0_9 rfl hq
theorem ordR1 (b : Int) (h0 : 0 ≤ b) (h1 : b < 10) (hq : ∀ h', Q (.bool true) h') : AC pg (.fn 12) [.int .i64 1, .int .i64 b] (hP m) Q := by
  have c : b = 0 ∨ b = 1 ∨ b = 2 ∨ b = 3 ∨ b = 4 ∨ b = 5 ∨ b = 6 ∨ b = 7 ∨ b = 8 ∨ b = 9 := by omega
  rcases c with rfl | rfl | rfl | rfl | rfl | rfl | rfl | rfl | rfl | rfl
  · exact law_run ord1_0 rfl hq
  · exact law_run ord1_1 rfl hq
  · exact law_run ord1_2 rfl hq
  · exact law_run ord1_3 rfl hq
  · exact law_run ord1_4 rfl hq
  · exact law_run ord1_5 rfl hq
  · exact law_run ord1_6 rfl hq
  · exact law_run ord1_7 rfl hq
  · exact law_run ord1_8 rfl hq
  · exact law_run ord1_9 rfl hq
theorem ordR2 (b : Int) (h0 : 0 ≤ b) (h1 : b < 10) (hq : ∀ h', Q (.bool true) h') : AC pg (.fn 12) [.int .i64 2, .int .i64 b] (hP m) Q := by
  have c : b = 0 ∨ b = 1 ∨ b = 2 ∨ b = 3 ∨ b = 4 ∨ b = 5 ∨ b = 6 ∨ b = 7 ∨ b = 8 ∨ b = 9 := by omega
  rcases c with rfl | rfl | rfl | rfl | rfl | rfl | rfl | rfl | rfl | rfl
  · exact law_run ord2_0 rfl hq
  · exact law_run ord2_1 rfl hq
  · exact law_run ord2_2 rfl hq
  · exact law_run ord2_3 rfl hq
  · exact law_run ord2_4 rfl hq
  · exact law_run ord2_5 rfl hq
  · exact law_run ord2_6 rfl hq
  · exact law_run ord2_7 rfl hq
  · exact law_run ord2_8 rfl hq
  · exact law_run ord2_9 rfl hq
theorem ordR3 (b : Int) (h0 : 0 ≤ b) (h1 : b < 10) (hq : ∀ h', Q (.bool true) h') : AC pg (.fn 12) [.int .i64 3, .int .i64 b] (hP m) Q := by
  have c : b = 0 ∨ b = 1 ∨ b = 2 ∨ b = 3 ∨ b = 4 ∨ b = 5 ∨ b = 6 ∨ b = 7 ∨ b = 8 ∨ b = 9 := by omega
  rcases c with rfl | rfl | rfl | rfl | rfl | rfl | rfl | rfl | rfl | rfl
  · exact law_run ord3_0 rfl hq
  · exact law_run ord3_1 rfl hq
  · exact law_run ord3_2 rfl hq
  · exact law_run ord3_3 rfl hq
  · exact law_run ord3_4 rfl hq
  · exact law_run ord3_5 rfl hq
  · exact law_run ord3_6 rfl hq
  · exact law_run ord3_7 rfl hq
  · exact law_run ord3_8 rfl hq
  · exact law_run ord3_9 rfl hq
theorem ordR4 (b : Int) (h0 : 0 ≤ b) (h1 : b < 10) (hq : ∀ h', Q (.bool true) h') : AC pg (.fn 12) [.int .i64 4, .int .i64 b] (hP m) Q := by
  have c : b = 0 ∨ b = 1 ∨ b = 2 ∨ b = 3 ∨ b = 4 ∨ b = 5 ∨ b = 6 ∨ b = 7 ∨ b = 8 ∨ b = 9 := by omega
  rcases c with rfl | rfl | rfl | rfl | rfl | rfl | rfl | rfl | rfl | rfl
  · exact law_run ord4_0 rfl hq
  · exact law_run ord4_1 rfl hq
  · exact law_run ord4_2 rfl hq
  · exact law_run ord4_3 rfl hq
  · exact law_run ord4_4 rfl hq
  · exact law_run ord4_5 rfl hq
  · exact law_run ord4_6 rfl hq
  · exact law_run ord4_7 rfl hq
  · exact law_run ord4_8 rfl hq
  · exact law_run ord4_9 rfl hq
theorem ordR5 (b : Int) (h0 : 0 ≤ b) (h1 : b < 10) (hq : ∀ h', Q (.bool true) h') : AC pg (.fn 12) [.int .i64 5, .int .i64 b] (hP m) Q := by
  have c : b = 0 ∨ b = 1 ∨ b = 2 ∨ b = 3 ∨ b = 4 ∨ b = 5 ∨ b = 6 ∨ b = 7 ∨ b = 8 ∨ b = 9 := by omega
  rcases c with rfl | rfl | rfl | rfl | rfl | rfl | rfl | rfl | rfl | rfl
  · exact law_run ord5_0 rfl hq
  · exact law_run ord5_1 rfl hq
  · exact law_run ord5_2 rfl hq
  · exact law_run ord5_3 rfl hq
  · exact law_run ord5_4 rfl hq
  · exact law_run ord5_5 rfl hq
  · exact law_run ord5_6 rfl hq
  · exact law_run ord5_7 rfl hq
  · exact law_run ord5_8 rfl hq
  · exact law_run ord5_9 rfl hq
theorem ordR6 (b : Int) (h0 : 0 ≤ b) (h1 : b < 10) (hq : ∀ h', Q (.bool true) h') : AC pg (.fn 12) [.int .i64 6, .int .i64 b] (hP m) Q := by
  have c : b = 0 ∨ b = 1 ∨ b = 2 ∨ b = 3 ∨ b = 4 ∨ b = 5 ∨ b = 6 ∨ b = 7 ∨ b = 8 ∨ b = 9 := by omega
  rcases c with rfl | rfl | rfl | rfl | rfl | rfl | rfl | rfl | rfl | rfl
  · exact law_run ord6_0 rfl hq
  · exact law_run ord6_1 rfl hq
  · exact law_run ord6_2 rfl hq
  · exact law_run ord6_3 rfl hq
  · exact law_run ord6_4 rfl hq
  · exact law_run ord6_5 rfl hq
  · exact law_run ord6_6 rfl hq
  · exact law_run ord6_7 rfl hq
  · exact law_run ord6_8 rfl hq
  · exact law_run ord6_9 rfl hq
theorem ordR7 (b : Int) (h0 : 0 ≤ b) (h1 : b < 10) (hq : ∀ h', Q (.bool true) h') : AC pg (.fn 12) [.int .i64 7, .int .i64 b] (hP m) Q := by
  have c : b = 0 ∨ b = 1 ∨ b = 2 ∨ b = 3 ∨ b = 4 ∨ b = 5 ∨ b = 6 ∨ b = 7 ∨ b = 8 ∨ b = 9 := by omega
  rcases c with rfl | rfl | rfl | rfl | rfl | rfl | rfl | rfl | rfl | rfl
  · exact law_run ord7_0 rfl hq
  · exact law_run ord7_1 rfl hq
  · exact law_run ord7_2 rfl hq
  · exact law_run ord7_3 rfl hq
  · exact law_run ord7_4 rfl hq
  · exact law_run ord7_5 rfl hq
  · exact law_run ord7_6 rfl hq
  · exact law_run ord7_7 rfl hq
  · exact law_run ord7_8 rfl hq
  · exact law_run ord7_9 rfl hq
theorem ordR8 (b : Int) (h0 : 0 ≤ b) (h1 : b < 10) (hq : ∀ h', Q (.bool true) h') : AC pg (.fn 12) [.int .i64 8, .int .i64 b] (hP m) Q := by
  have c : b = 0 ∨ b = 1 ∨ b = 2 ∨ b = 3 ∨ b = 4 ∨ b = 5 ∨ b = 6 ∨ b = 7 ∨ b = 8 ∨ b = 9 := by omega
  rcases c with rfl | rfl | rfl | rfl | rfl | rfl | rfl | rfl | rfl | rfl
  · exact law_run ord8_0 rfl hq
  · exact law_run ord8_1 rfl hq
  · exact law_run ord8_2 rfl hq
  · exact law_run ord8_3 rfl hq
  · exact law_run ord8_4 rfl hq
  · exact law_run ord8_5 rfl hq
  · exact law_run ord8_6 rfl hq
  · exact law_run ord8_7 rfl hq
  · exact law_run ord8_8 rfl hq
  · exact law_run ord8_9 rfl hq
theorem ordR9 (b : Int) (h0 : 0 ≤ b) (h1 : b < 10) (hq : ∀ h', Q (.bool true) h') : AC pg (.fn 12) [.int .i64 9, .int .i64 b] (hP m) Q := by
  have c : b = 0 ∨ b = 1 ∨ b = 2 ∨ b = 3 ∨ b = 4 ∨ b = 5 ∨ b = 6 ∨ b = 7 ∨ b = 8 ∨ b = 9 := by omega
  rcases c with rfl | rfl | rfl | rfl | rfl | rfl | rfl | rfl | rfl | rfl
  · exact law_run ord9_0 rfl hq
  · exact law_run ord9_1 rfl hq
  · exact law_run ord9_2 rfl hq
  · exact law_run ord9_3 rfl hq
  · exact law_run ord9_4 rfl hq
  · exact law_run ord9_5 rfl hq
  · exact law_run ord9_6 rfl hq
  · exact law_run ord9_7 rfl hq
  · exact law_run ord9_8 rfl hq
  · exact law_run ord9_9 rfl hq
theorem order_out (a b : Int) (hc : a < 0 ∨ 10 ≤ a ∨ b < 0 ∨ 10 ≤ b) (hq : ∀ h', Q (.bool true) h') : AC pg (.fn 12) [.int .i64 a, .int .i64 b] (hP m) Q := by
  refine AC.fn' (g := g12) rfl (by simp only [List.length_cons, List.length_nil, g12]; decide) ?_; simp only [g12]
  by_cases c0 : a < 0
  · ((try simp -implicitDefEqProofs only [later, laterE, laterD, laterR]); (repeat (first | simp -implicitDefEqProofs only [go_sem, ↓reduceIte, Nat.reduceEqDiff, Nat.reduceAdd, Nat.reduceLeDiff, Nat.reduceLT, Nat.reduceMul, reduceCtorEq, Int.reduceEq, Int.reduceLT, Int.reduceLE, Int.reduceNeg, Int.reduceToNat, Int.reduceMul, Int.reduceAdd, Int.reduceSub] | simp (disch := (first | omega | (simp only [go_sem]; done) | (simp only [lens]; omega))) only [cds])))
    intro b0 hb0
    ((try simp -implicitDefEqProofs only [later, laterE, laterD, laterR]); (repeat (first | simp -implicitDefEqProofs only [go_sem, ↓reduceIte, Nat.reduceEqDiff, Nat.reduceAdd, Nat.reduceLeDiff, Nat.reduceLT, Nat.reduceMul, reduceCtorEq, Int.reduceEq, Int.reduceLT, Int.reduceLE, Int.reduceNeg, Int.reduceToNat, Int.reduceMul, Int.reduceAdd, Int.reduceSub] | simp (disch := (first | omega | (simp only [go_sem]; done) | (simp only [lens]; omega))) only [cds])))
    intro b1 hb1
    ((try simp -implicitDefEqProofs only [later, laterE, laterD, laterR]); (repeat (first | simp -implicitDefEqProofs only [go_sem, ↓reduceIte, Nat.reduceEqDiff, Nat.reduceAdd, Nat.reduceLeDiff, Nat.reduceLT, Nat.reduceMul, reduceCtorEq, Int.reduceEq, Int.reduceLT, Int.reduceLE, Int.reduceNeg, Int.reduceToNat, Int.reduceMul, Int.reduceAdd, Int.reduceSub] | simp (disch := (first | omega | (simp only [go_sem]; done) | (simp only [lens]; omega))) only [cds])))
    intro b2 hb2
    ((try simp -implicitDefEqProofs only [later, laterE, laterD, laterR]); (repeat (first | simp -implicitDefEqProofs only [go_sem, ↓reduceIte, Nat.reduceEqDiff, Nat.reduceAdd, Nat.reduceLeDiff, Nat.reduceLT, Nat.reduceMul, reduceCtorEq, Int.reduceEq, Int.reduceLT, Int.reduceLE, Int.reduceNeg, Int.reduceToNat, Int.reduceMul, Int.reduceAdd, Int.reduceSub] | simp (disch := (first | omega | (simp only [go_sem]; done) | (simp only [lens]; omega))) only [cds])))
    refine awake13_ac (m := m) (fun b o hb => Sub.refl.put hb2 _ _ (Sub.refl.put hb1 _ _ (Sub.refl.put hb0 _ _ hb))) fun h' s => ?_
    ((try simp -implicitDefEqProofs only [later, laterE, laterD, laterR]); (repeat (first | simp -implicitDefEqProofs only [go_sem, ↓reduceIte, Nat.reduceEqDiff, Nat.reduceAdd, Nat.reduceLeDiff, Nat.reduceLT, Nat.reduceMul, reduceCtorEq, Int.reduceEq, Int.reduceLT, Int.reduceLE, Int.reduceNeg, Int.reduceToNat, Int.reduceMul, Int.reduceAdd, Int.reduceSub] | simp (disch := (first | omega | (simp only [go_sem]; done) | (simp only [lens]; omega))) only [cds])))
    exact ⟨_, Sub.refl, hq _⟩
  by_cases c1 : 10 ≤ a
  · ((try simp -implicitDefEqProofs only [later, laterE, laterD, laterR]); (repeat (first | simp -implicitDefEqProofs only [go_sem, ↓reduceIte, Nat.reduceEqDiff, Nat.reduceAdd, Nat.reduceLeDiff, Nat.reduceLT, Nat.reduceMul, reduceCtorEq, Int.reduceEq, Int.reduceLT, Int.reduceLE, Int.reduceNeg, Int.reduceToNat, Int.reduceMul, Int.reduceAdd, Int.reduceSub] | simp (disch := (first | omega | (simp only [go_sem]; done) | (simp only [lens]; omega))) only [cds])))
    intro b0 hb0
    ((try simp -implicitDefEqProofs only [later, laterE, laterD, laterR]); (repeat (first | simp -implicitDefEqProofs only [go_sem, ↓reduceIte, Nat.reduceEqDiff, Nat.reduceAdd, Nat.reduceLeDiff, Nat.reduceLT, Nat.reduceMul, reduceCtorEq, Int.reduceEq, Int.reduceLT, Int.reduceLE, Int.reduceNeg, Int.reduceToNat, Int.reduceMul, Int.reduceAdd, Int.reduceSub] | simp (disch := (first | omega | (simp only [go_sem]; done) | (simp only [lens]; omega))) only [cds])))
    intro b1 hb1
    ((try simp -implicitDefEqProofs only [later, laterE, laterD, laterR]); (repeat (first | simp -implicitDefEqProofs only [go_sem, ↓reduceIte, Nat.reduceEqDiff, Nat.reduceAdd, Nat.reduceLeDiff, Nat.reduceLT, Nat.reduceMul, reduceCtorEq, Int.reduceEq, Int.reduceLT, Int.reduceLE, Int.reduceNeg, Int.reduceToNat, Int.reduceMul, Int.reduceAdd, Int.reduceSub] | simp (disch := (first | omega | (simp only [go_sem]; done) | (simp only [lens]; omega))) only [cds])))
    intro b2 hb2
    ((try simp -implicitDefEqProofs only [later, laterE, laterD, laterR]); (repeat (first | simp -implicitDefEqProofs only [go_sem, ↓reduceIte, Nat.reduceEqDiff, Nat.reduceAdd, Nat.reduceLeDiff, Nat.reduceLT, Nat.reduceMul, reduceCtorEq, Int.reduceEq, Int.reduceLT, Int.reduceLE, Int.reduceNeg, Int.reduceToNat, Int.reduceMul, Int.reduceAdd, Int.reduceSub] | simp (disch := (first | omega | (simp only [go_sem]; done) | (simp only [lens]; omega))) only [cds])))
    refine awake13_ac (m := m) (fun b o hb => Sub.refl.put hb2 _ _ (Sub.refl.put hb1 _ _ (Sub.refl.put hb0 _ _ hb))) fun h' s => ?_
    ((try simp -implicitDefEqProofs only [later, laterE, laterD, laterR]); (repeat (first | simp -implicitDefEqProofs only [go_sem, ↓reduceIte, Nat.reduceEqDiff, Nat.reduceAdd, Nat.reduceLeDiff, Nat.reduceLT, Nat.reduceMul, reduceCtorEq, Int.reduceEq, Int.reduceLT, Int.reduceLE, Int.reduceNeg, Int.reduceToNat, Int.reduceMul, Int.reduceAdd, Int.reduceSub] | simp (disch := (first | omega | (simp only [go_sem]; done) | (simp only [lens]; omega))) only [cds])))
    exact ⟨_, Sub.refl, hq _⟩
  by_cases c2 : b < 0
  · ((try simp -implicitDefEqProofs only [later, laterE, laterD, laterR]); (repeat (first | simp -implicitDefEqProofs only [go_sem, ↓reduceIte, Nat.reduceEqDiff, Nat.reduceAdd, Nat.reduceLeDiff, Nat.reduceLT, Nat.reduceMul, reduceCtorEq, Int.reduceEq, Int.reduceLT, Int.reduceLE, Int.reduceNeg, Int.reduceToNat, Int.reduceMul, Int.reduceAdd, Int.reduceSub] | simp (disch := (first | omega | (simp only [go_sem]; done) | (simp only [lens]; omega))) only [cds])))
    intro b0 hb0
    ((try simp -implicitDefEqProofs only [later, laterE, laterD, laterR]); (repeat (first | simp -implicitDefEqProofs only [go_sem, ↓reduceIte, Nat.reduceEqDiff, Nat.reduceAdd, Nat.reduceLeDiff, Nat.reduceLT, Nat.reduceMul, reduceCtorEq, Int.reduceEq, Int.reduceLT, Int.reduceLE, Int.reduceNeg, Int.reduceToNat, Int.reduceMul, Int.reduceAdd, Int.reduceSub] | simp (disch := (first | omega | (simp only [go_sem]; done) | (simp only [lens]; omega))) only [cds])))
    intro b1 hb1
    ((try simp -implicitDefEqProofs only [later, laterE, laterD, laterR]); (repeat (first | simp -implicitDefEqProofs only [go_sem, ↓reduceIte, Nat.reduceEqDiff, Nat.reduceAdd, Nat.reduceLeDiff, Nat.reduceLT, Nat.reduceMul, reduceCtorEq, Int.reduceEq, Int.reduceLT, Int.reduceLE, Int.reduceNeg, Int.reduceToNat, Int.reduceMul, Int.reduceAdd, Int.reduceSub] | simp (disch := (first | omega | (simp only [go_sem]; done) | (simp only [lens]; omega))) only [cds])))
    intro b2 hb2
    ((try simp -implicitDefEqProofs only [later, laterE, laterD, laterR]); (repeat (first | simp -implicitDefEqProofs only [go_sem, ↓reduceIte, Nat.reduceEqDiff, Nat.reduceAdd, Nat.reduceLeDiff, Nat.reduceLT, Nat.reduceMul, reduceCtorEq, Int.reduceEq, Int.reduceLT, Int.reduceLE, Int.reduceNeg, Int.reduceToNat, Int.reduceMul, Int.reduceAdd, Int.reduceSub] | simp (disch := (first | omega | (simp only [go_sem]; done) | (simp only [lens]; omega))) only [cds])))
    refine awake13_ac (m := m) (fun b o hb => Sub.refl.put hb2 _ _ (Sub.refl.put hb1 _ _ (Sub.refl.put hb0 _ _ hb))) fun h' s => ?_
    ((try simp -implicitDefEqProofs only [later, laterE, laterD, laterR]); (repeat (first | simp -implicitDefEqProofs only [go_sem, ↓reduceIte, Nat.reduceEqDiff, Nat.reduceAdd, Nat.reduceLeDiff, Nat.reduceLT, Nat.reduceMul, reduceCtorEq, Int.reduceEq, Int.reduceLT, Int.reduceLE, Int.reduceNeg, Int.reduceToNat, Int.reduceMul, Int.reduceAdd, Int.reduceSub] | simp (disch := (first | omega | (simp only [go_sem]; done) | (simp only [lens]; omega))) only [cds])))
    exact ⟨_, Sub.refl, hq _⟩
  · have c3 : 10 ≤ b := by omega
    ((try simp -implicitDefEqProofs only [later, laterE, laterD, laterR]); (repeat (first | simp -implicitDefEqProofs only [go_sem, ↓reduceIte, Nat.reduceEqDiff, Nat.reduceAdd, Nat.reduceLeDiff, Nat.reduceLT, Nat.reduceMul, reduceCtorEq, Int.reduceEq, Int.reduceLT, Int.reduceLE, Int.reduceNeg, Int.reduceToNat, Int.reduceMul, Int.reduceAdd, Int.reduceSub] | simp (disch := (first | omega | (simp only [go_sem]; done) | (simp only [lens]; omega))) only [cds])))
    intro b0 hb0
    ((try simp -implicitDefEqProofs only [later, laterE, laterD, laterR]); (repeat (first | simp -implicitDefEqProofs only [go_sem, ↓reduceIte, Nat.reduceEqDiff, Nat.reduceAdd, Nat.reduceLeDiff, Nat.reduceLT, Nat.reduceMul, reduceCtorEq, Int.reduceEq, Int.reduceLT, Int.reduceLE, Int.reduceNeg, Int.reduceToNat, Int.reduceMul, Int.reduceAdd, Int.reduceSub] | simp (disch := (first | omega | (simp only [go_sem]; done) | (simp only [lens]; omega))) only [cds])))
    intro b1 hb1
    ((try simp -implicitDefEqProofs only [later, laterE, laterD, laterR]); (repeat (first | simp -implicitDefEqProofs only [go_sem, ↓reduceIte, Nat.reduceEqDiff, Nat.reduceAdd, Nat.reduceLeDiff, Nat.reduceLT, Nat.reduceMul, reduceCtorEq, Int.reduceEq, Int.reduceLT, Int.reduceLE, Int.reduceNeg, Int.reduceToNat, Int.reduceMul, Int.reduceAdd, Int.reduceSub] | simp (disch := (first | omega | (simp only [go_sem]; done) | (simp only [lens]; omega))) only [cds])))
    intro b2 hb2
    ((try simp -implicitDefEqProofs only [later, laterE, laterD, laterR]); (repeat (first | simp -implicitDefEqProofs only [go_sem, ↓reduceIte, Nat.reduceEqDiff, Nat.reduceAdd, Nat.reduceLeDiff, Nat.reduceLT, Nat.reduceMul, reduceCtorEq, Int.reduceEq, Int.reduceLT, Int.reduceLE, Int.reduceNeg, Int.reduceToNat, Int.reduceMul, Int.reduceAdd, Int.reduceSub] | simp (disch := (first | omega | (simp only [go_sem]; done) | (simp only [lens]; omega))) only [cds])))
    refine awake13_ac (m := m) (fun b o hb => Sub.refl.put hb2 _ _ (Sub.refl.put hb1 _ _ (Sub.refl.put hb0 _ _ hb))) fun h' s => ?_
    ((try simp -implicitDefEqProofs only [later, laterE, laterD, laterR]); (repeat (first | simp -implicitDefEqProofs only [go_sem, ↓reduceIte, Nat.reduceEqDiff, Nat.reduceAdd, Nat.reduceLeDiff, Nat.reduceLT, Nat.reduceMul, reduceCtorEq, Int.reduceEq, Int.reduceLT, Int.reduceLE, Int.reduceNeg, Int.reduceToNat, Int.reduceMul, Int.reduceAdd, Int.reduceSub] | simp (disch := (first | omega | (simp only [go_sem]; done) | (simp only [lens]; omega))) only [cds])))
    exact ⟨_, Sub.refl, hq _⟩
theorem order_ac (a b : Int) (hq : ∀ h', Q (.bool true) h') : AC pg (.fn 12) [.int .i64 a, .int .i64 b] (hP m) Q := by
  by_cases hc : a < 0 ∨ 10 ≤ a ∨ b < 0 ∨ 10 ≤ b
  · exact order_out a b hc hq
  · have h0 : 0 ≤ b := by omega
    have h1 : b < 10 := by omega
    have c : a = 0 ∨ a = 1 ∨ a = 2 ∨ a = 3 ∨ a = 4 ∨ a = 5 ∨ a = 6 ∨ a = 7 ∨ a = 8 ∨ a = 9 := by omega
    rcases c with rfl | rfl | rfl | rfl | rfl | rfl | rfl | rfl | rfl | rfl
    · exact ordR0 b h0 h1 hq
    · exact ordR1 b h0 h1 hq
    · exact ordR2 b h0 h1 hq
    · exact ordR3 b h0 h1 hq
    · exact ordR4 b h0 h1 hq
    · exact ordR5 b h0 h1 hq
    · exact ordR6 b h0 h1 hq
    · exact ordR7 b h0 h1 hq
    · exact ordR8 b h0 h1 hq
    · exact ordR9 b h0 h1 hq
end Go.Proofs.YtkfbldogmgofoaaGreatDoor
