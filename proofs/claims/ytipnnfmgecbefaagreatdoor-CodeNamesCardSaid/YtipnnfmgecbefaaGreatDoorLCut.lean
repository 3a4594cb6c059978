/- Walks that serve several seats: texts cut. -/
import Derived.Test.YtipnnfmgecbefaaGreatDoorP
import Derived.Test.YtipnnfmgecbefaaGreatDoorMir31
set_option linter.unusedSimpArgs false
set_option linter.unusedVariables false
namespace Go.Proofs.YtipnnfmgecbefaaGreatDoor
open Mir
variable {h : H} {Q : V → H → Prop}
theorem idxB_none {c : UInt8} : ∀ {s : List UInt8}, c ∉ s → idxB c s = -1
  | [], _ => rfl
  | b :: s, h => by
    have h1 : ¬ b = c := fun e => h (e ▸ List.mem_cons_self)
    have h2 := idxB_none (s := s) fun e => h (List.mem_cons_of_mem _ e)
    simp [idxB, h1, h2]
theorem idxB_some {c : UInt8} : ∀ {l r : List UInt8}, c ∉ l → idxB c (l ++ c :: r) = (l.length : Nat)
  | [], r, _ => by simp [idxB]
  | b :: l, r, h => by
    have h1 : ¬ b = c := fun e => h (e ▸ List.mem_cons_self)
    have h2 := idxB_some (l := l) (r := r) fun e => h (List.mem_cons_of_mem _ e)
    have h3 : ¬ ((l.length : Nat) : Int) = -1 := by omega
    simp [idxB, h1, h2, h3]
theorem split_byte (c : UInt8) (s : List UInt8) : c ∉ s ∨ ∃ l r, s = l ++ c :: r ∧ c ∉ l := by
  induction s with
  | nil => exact .inl (by simp)
  | cons b s ih =>
    by_cases e : b = c
    · exact .inr ⟨[], s, by simp [e], by simp⟩
    · rcases ih with h | ⟨l, r, h1, h2⟩
      · exact .inl (by simp [h]; exact fun x => e x.symm)
      · exact .inr ⟨b :: l, r, by simp [h1], by simp [h2]; exact fun x => e x.symm⟩
theorem index1_ac (s : List UInt8) (c : UInt8) (hq : Q (.int .i64 (idxB c s)) h) : AC pg (.fn 134) [.str s, .str [c]] h Q := by
  refine AC.fn' (g := g134) rfl (by simp only [List.length_cons, List.length_nil, g134]; decide) ?_; simp only [g134]
  by_cases e : [c] = s
  · subst e
    have : idxB c [c] = 0 := by simp [idxB]
    rw [this] at hq
    ((try simp -implicitDefEqProofs only [later, laterE, laterD, laterR]); (repeat (first | simp -implicitDefEqProofs only [go_sem, ↓reduceIte, Nat.reduceEqDiff, Nat.reduceAdd, Nat.reduceLeDiff, Nat.reduceLT, Nat.reduceMul, reduceCtorEq, Int.reduceEq, Int.reduceLT, Int.reduceLE, Int.reduceNeg, Int.reduceToNat, Int.reduceMul, Int.reduceAdd, Int.reduceSub] | simp (disch := (first | omega | (simp only [go_sem]; done) | (simp only [lens]; omega))) only [cds])))
    exact ⟨h, Sub.refl, hq⟩
  · have hcn : UInt8.ofNat (Int.toNat ((c.toNat : Nat) : Int)) = c := by simp
    ((try simp -implicitDefEqProofs only [later, laterE, laterD, laterR]); (repeat (first | simp -implicitDefEqProofs only [go_sem, ↓reduceIte, Nat.reduceEqDiff, Nat.reduceAdd, Nat.reduceLeDiff, Nat.reduceLT, Nat.reduceMul, reduceCtorEq, Int.reduceEq, Int.reduceLT, Int.reduceLE, Int.reduceNeg, Int.reduceToNat, Int.reduceMul, Int.reduceAdd, Int.reduceSub, decide_eq_false e] | simp (disch := (first | omega | (simp only [go_sem]; done) | (simp only [lens]; omega))) only [cds, decide_eq_false e])))
    refine AC.fn' (g := g128) rfl (by simp only [List.length_cons, List.length_nil, g128]; decide) ?_; simp only [g128]
    ((try simp -implicitDefEqProofs only [later, laterE, laterD, laterR]); (repeat (first | simp -implicitDefEqProofs only [go_sem, ↓reduceIte, Nat.reduceEqDiff, Nat.reduceAdd, Nat.reduceLeDiff, Nat.reduceLT, Nat.reduceMul, reduceCtorEq, Int.reduceEq, Int.reduceLT, Int.reduceLE, Int.reduceNeg, Int.reduceToNat, Int.reduceMul, Int.reduceAdd, Int.reduceSub, hcn] | simp (disch := (first | omega | (simp only [go_sem]; done) | (simp only [lens]; omega))) only [cds, hcn])))
    refine ⟨h, Sub.refl, ?_⟩
    ((try simp -implicitDefEqProofs only [later, laterE, laterD, laterR]); (repeat (first | simp -implicitDefEqProofs only [go_sem, ↓reduceIte, Nat.reduceEqDiff, Nat.reduceAdd, Nat.reduceLeDiff, Nat.reduceLT, Nat.reduceMul, reduceCtorEq, Int.reduceEq, Int.reduceLT, Int.reduceLE, Int.reduceNeg, Int.reduceToNat, Int.reduceMul, Int.reduceAdd, Int.reduceSub] | simp (disch := (first | omega | (simp only [go_sem]; done) | (simp only [lens]; omega))) only [cds])))
    exact ⟨h, Sub.refl, hq⟩
end Go.Proofs.YtipnnfmgecbefaaGreatDoor
