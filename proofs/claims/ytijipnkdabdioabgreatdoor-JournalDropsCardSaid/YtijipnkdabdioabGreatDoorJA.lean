/- The journal, walked, 3: awake. -/
import Derived.Test.YtijipnkdabdioabGreatDoorJ1
import Derived.Test.YtijipnkdabdioabGreatDoorJ3
set_option linter.unusedSimpArgs false
set_option linter.unusedVariables false
namespace Go.Proofs.YtijipnkdabdioabGreatDoor
open Mir SumMath
variable {h : H} {Q : V → H → Prop}
def tAb : List UInt8 := [97, 98]
def fAb : List UInt8 := [115, 99, 114, 105, 98, 101, 32, 49, 32, 50, 32, 48, 49, 50, 54, 48, 48, 99, 52, 10, 97, 98]
def fBb : List UInt8 := [115, 99, 114, 105, 98, 101, 32, 49, 32, 50, 32, 48, 49, 50, 54, 48, 48, 99, 52, 10, 98, 98]
theorem frame_ab : frame tAb = fAb := by
  rw [frame_eq, dec_small (by decide)]
  decide +kernel
theorem open_ab : opened fAb = (tAb, 0) := by
  rw [← frame_ab]; exact opened_frame tAb (by decide)
theorem open_bb : opened fBb = ([], 4) := by
  have e : fBb = (magic ++ dec 2 ++ [32]) ++ (hexOf (sumOf tAb) ++ ([10] ++ [98, 98])) := by
    rw [dec_small (by decide)]; decide +kernel
  rw [e, opened_body (by decide) (hex_no10 _), if_neg (by decide), if_neg (by decide)]
  have : codeOf (hexOf (sumOf tAb)) [98, 98] = 4 := by decide +kernel
  rw [this]; rfl
theorem awake_ac (hG : HasPow h) (hE : HasErr h) (hq : Q (.bool true) h) : AC pg (.fn 7) [] h Q := by
  refine AC.fn' (g := g7) rfl (by simp only [List.length_cons, List.length_nil, g7]; decide) ?_; simp only [g7]
  ((try simp -implicitDefEqProofs only [later, laterE, laterD, laterR]); (repeat (first | simp -implicitDefEqProofs only [go_sem, ↓reduceIte, Nat.reduceEqDiff, Nat.reduceAdd, Nat.reduceLeDiff, Nat.reduceLT, Nat.reduceMul, reduceCtorEq, Int.reduceEq, Int.reduceLT, Int.reduceLE, Int.reduceNeg, Int.reduceToNat, Int.reduceMul, Int.reduceAdd, Int.reduceSub] | simp (disch := (first | omega | (simp only [go_sem]; done) | (simp only [lens]; omega))) only [cds])))
  refine open_ac fAb (by decide) hG hE ?_
  rw [open_ab]
  ((try simp -implicitDefEqProofs only [later, laterE, laterD, laterR]); (repeat (first | simp -implicitDefEqProofs only [go_sem, ↓reduceIte, Nat.reduceEqDiff, Nat.reduceAdd, Nat.reduceLeDiff, Nat.reduceLT, Nat.reduceMul, reduceCtorEq, Int.reduceEq, Int.reduceLT, Int.reduceLE, Int.reduceNeg, Int.reduceToNat, Int.reduceMul, Int.reduceAdd, Int.reduceSub] | simp (disch := (first | omega | (simp only [go_sem]; done) | (simp only [lens]; omega))) only [cds])))
  refine open_ac fBb (by decide) hG hE ?_
  rw [open_bb]
  ((try simp -implicitDefEqProofs only [later, laterE, laterD, laterR]); (repeat (first | simp -implicitDefEqProofs only [go_sem, ↓reduceIte, Nat.reduceEqDiff, Nat.reduceAdd, Nat.reduceLeDiff, Nat.reduceLT, Nat.reduceMul, reduceCtorEq, Int.reduceEq, Int.reduceLT, Int.reduceLE, Int.reduceNeg, Int.reduceToNat, Int.reduceMul, Int.reduceAdd, Int.reduceSub] | simp (disch := (first | omega | (simp only [go_sem]; done) | (simp only [lens]; omega))) only [cds])))
  have e1 : (tAb = [97, 98]) = True := by simp [tAb]
  ((try simp -implicitDefEqProofs only [later, laterE, laterD, laterR]); (repeat (first | simp -implicitDefEqProofs only [go_sem, ↓reduceIte, Nat.reduceEqDiff, Nat.reduceAdd, Nat.reduceLeDiff, Nat.reduceLT, Nat.reduceMul, reduceCtorEq, Int.reduceEq, Int.reduceLT, Int.reduceLE, Int.reduceNeg, Int.reduceToNat, Int.reduceMul, Int.reduceAdd, Int.reduceSub, e1] | simp (disch := (first | omega | (simp only [go_sem]; done) | (simp only [lens]; omega))) only [cds, e1])))
  refine frame_ac tAb (by decide) hG ?_
  rw [frame_ab]
  have e2 : (fAb = [115, 99, 114, 105, 98, 101, 32, 49, 32, 50, 32, 48, 49, 50, 54, 48, 48, 99, 52, 10, 97, 98]) = True := by simp [fAb]
  ((try simp -implicitDefEqProofs only [later, laterE, laterD, laterR]); (repeat (first | simp -implicitDefEqProofs only [go_sem, ↓reduceIte, Nat.reduceEqDiff, Nat.reduceAdd, Nat.reduceLeDiff, Nat.reduceLT, Nat.reduceMul, reduceCtorEq, Int.reduceEq, Int.reduceLT, Int.reduceLE, Int.reduceNeg, Int.reduceToNat, Int.reduceMul, Int.reduceAdd, Int.reduceSub, e2] | simp (disch := (first | omega | (simp only [go_sem]; done) | (simp only [lens]; omega))) only [cds, e2])))
  exact ⟨_, Sub.refl, hq⟩
end Go.Proofs.YtijipnkdabdioabGreatDoor
