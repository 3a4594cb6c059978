/- The disk, 3: what the calls do to it; the small ones walked. -/
import Derived.Test.YtijipnkdabdioabGreatDoorD2
set_option linter.unusedSimpArgs false
set_option linter.unusedVariables false
namespace Go.Proofs.YtijipnkdabdioabGreatDoor
open Mir
def Dk.new (q : Int) : Dk := ⟨[], [], [], (max q 0).toNat, -1, false⟩
def Dk.body (D : Dk) (i : Nat) : Txt × Txt := (D.bodies[i]?).getD ([], [])
def Dk.used (D : Dk) : Nat := (D.now.map fun e => (D.body e.2).1.length).sum
def Dk.deed (D : Dk) : Dk := if 0 < D.left then { D with left := D.left - 1 } else if D.left = 0 then { D with dead := true } else D
def Dk.arm (D : Dk) (n : Int) : Dk := if D.dead then D else { D with left := max n (-1) }
def Dk.setQuota (D : Dk) (n : Int) : Dk := { D with quota := (max n 0).toNat }
variable {h : H} {p bn bs : Nat} {fs : List Nat} {D : Dk} {Q : V → H → Prop}
theorem own_p : own p bn bs fs p := .inl rfl
theorem own_bn : own p bn bs fs bn := .inr (.inl rfl)
theorem own_bs : own p bn bs fs bs := .inr (.inr (.inl rfl))
theorem own_f {f : Nat} (e : f ∈ fs) : own p bn bs fs f := .inr (.inr (.inr e))
theorem new_ac (q : Int) (hl : q < 9223372036854775808) (hq : ∀ h' p F, Disk h' p F (Dk.new q) → Step (fun _ => False) F h h' → Q (.ptr p 0) h') : AC pg (.fn 5) [.int .i64 q] h Q := by
  refine AC.fn' (g := g5) rfl (by simp only [List.length_cons, List.length_nil, g5]; decide) ?_; simp only [g5]
  ((try simp -implicitDefEqProofs only [later, laterE, laterD, laterR]); (repeat (first | simp -implicitDefEqProofs only [go_sem, ↓reduceIte, Nat.reduceEqDiff, Nat.reduceAdd, Nat.reduceLeDiff, Nat.reduceLT, Nat.reduceMul, reduceCtorEq, Int.reduceEq, Int.reduceLT, Int.reduceLE, Int.reduceNeg, Int.reduceToNat, Int.reduceMul, Int.reduceAdd, Int.reduceSub] | simp (disch := (first | omega | (simp only [go_sem]; done) | (simp only [lens]; omega))) only [cds])))
  intro b1 h1
  ((try simp -implicitDefEqProofs only [later, laterE, laterD, laterR]); (repeat (first | simp -implicitDefEqProofs only [go_sem, ↓reduceIte, Nat.reduceEqDiff, Nat.reduceAdd, Nat.reduceLeDiff, Nat.reduceLT, Nat.reduceMul, reduceCtorEq, Int.reduceEq, Int.reduceLT, Int.reduceLE, Int.reduceNeg, Int.reduceToNat, Int.reduceMul, Int.reduceAdd, Int.reduceSub] | simp (disch := (first | omega | (simp only [go_sem]; done) | (simp only [lens]; omega))) only [cds])))
  intro b2 h2
  rw [hadd_none] at h2
  ((try simp -implicitDefEqProofs only [later, laterE, laterD, laterR]); (repeat (first | simp -implicitDefEqProofs only [go_sem, ↓reduceIte, Nat.reduceEqDiff, Nat.reduceAdd, Nat.reduceLeDiff, Nat.reduceLT, Nat.reduceMul, reduceCtorEq, Int.reduceEq, Int.reduceLT, Int.reduceLE, Int.reduceNeg, Int.reduceToNat, Int.reduceMul, Int.reduceAdd, Int.reduceSub] | simp (disch := (first | omega | (simp only [go_sem]; done) | (simp only [lens]; omega))) only [cds])))
  intro p hp
  rw [hadd_none, hadd_none] at hp
  ((try simp -implicitDefEqProofs only [later, laterE, laterD, laterR]); (repeat (first | simp -implicitDefEqProofs only [go_sem, ↓reduceIte, Nat.reduceEqDiff, Nat.reduceAdd, Nat.reduceLeDiff, Nat.reduceLT, Nat.reduceMul, reduceCtorEq, Int.reduceEq, Int.reduceLT, Int.reduceLE, Int.reduceNeg, Int.reduceToNat, Int.reduceMul, Int.reduceAdd, Int.reduceSub] | simp (disch := (first | omega | (simp only [go_sem]; done) | (simp only [lens]; omega))) only [cds])))
  refine ⟨_, Sub.refl, hq _ p _ ⟨b1, b2, [], ⟨?_, ?_, ?_, ?_, rfl, ?_, by simp, ?_, ?_, ?_, ?_, ?_⟩, rfl⟩ ⟨?_, ?_⟩⟩
  · rw [hadd_same]
    simp only [Dk.new]
    rw [Int.toNat_of_nonneg (by omega)]
  · exact ⟨[], 0, by rw [hadd_ne' (Ne.symm hp.2.1), hadd_ne' (Ne.symm h2.1), hadd_same], Rep.nil⟩
  · exact ⟨[], 0, by rw [hadd_ne' (Ne.symm hp.1), hadd_same], Rep.nil⟩
  · exact Ne.symm h2.1
  · intro i f b e; cases e
  · intro e he; cases he
  · intro e he; cases he
  · intro e he; cases he
  · simp only [Dk.new]; omega
  · simp only [Dk.new]; omega
  · intro c o _ hc
    rw [hadd_ne' (ne_fresh hc hp.2.2), hadd_ne' (ne_fresh hc h2.2), hadd_ne' (ne_fresh hc h1)]; exact hc
  · rintro c (rfl | rfl | rfl | hc)
    · exact .inr hp.2.2
    · exact .inr h1
    · exact .inr h2.2
    · cases hc
theorem deed_ac (A : DiskAt h p bn bs fs D) (hq : ∀ h', DiskAt h' p bn bs fs D.deed → Step (own p bn bs fs) (own p bn bs fs) h h' → Q (.bool D.deed.dead) h') : AC pg (.fn 29) [.ptr p 0] h Q := by
  refine AC.fn' (g := g29) rfl (by simp only [List.length_cons, List.length_nil, g29]; decide) ?_; simp only [g29]
  have hd := A.head
  have hb := A.deeds
  unfold Dk.deed at hq
  by_cases c : 0 < D.left
  · rw [if_pos c] at hq
    have A' := A.nums A.room (l := D.left - 1) (d := D.dead) (by omega)
    ((try simp -implicitDefEqProofs only [later, laterE, laterD, laterR]); (repeat (first | simp -implicitDefEqProofs only [go_sem, ↓reduceIte, Nat.reduceEqDiff, Nat.reduceAdd, Nat.reduceLeDiff, Nat.reduceLT, Nat.reduceMul, reduceCtorEq, Int.reduceEq, Int.reduceLT, Int.reduceLE, Int.reduceNeg, Int.reduceToNat, Int.reduceMul, Int.reduceAdd, Int.reduceSub, hd] | simp (disch := (first | omega | (simp only [go_sem]; done) | (simp only [lens]; omega))) only [cds, hd])))
    exact ⟨_, Sub.refl, hq _ A' (Step.refl.put (.inl own_p))⟩
  · rw [if_neg c] at hq
    by_cases c2 : D.left = 0
    · rw [if_pos c2] at hq
      have A' := A.nums A.room (l := D.left) (d := true) (by omega)
      rw [c2] at A' hd hq
      ((try simp -implicitDefEqProofs only [later, laterE, laterD, laterR]); (repeat (first | simp -implicitDefEqProofs only [go_sem, ↓reduceIte, Nat.reduceEqDiff, Nat.reduceAdd, Nat.reduceLeDiff, Nat.reduceLT, Nat.reduceMul, reduceCtorEq, Int.reduceEq, Int.reduceLT, Int.reduceLE, Int.reduceNeg, Int.reduceToNat, Int.reduceMul, Int.reduceAdd, Int.reduceSub, hd] | simp (disch := (first | omega | (simp only [go_sem]; done) | (simp only [lens]; omega))) only [cds, hd])))
      exact ⟨_, Sub.refl, hq _ A' (Step.refl.put (.inl own_p))⟩
    · rw [if_neg c2] at hq
      ((try simp -implicitDefEqProofs only [later, laterE, laterD, laterR]); (repeat (first | simp -implicitDefEqProofs only [go_sem, ↓reduceIte, Nat.reduceEqDiff, Nat.reduceAdd, Nat.reduceLeDiff, Nat.reduceLT, Nat.reduceMul, reduceCtorEq, Int.reduceEq, Int.reduceLT, Int.reduceLE, Int.reduceNeg, Int.reduceToNat, Int.reduceMul, Int.reduceAdd, Int.reduceSub, hd] | simp (disch := (first | omega | (simp only [go_sem]; done) | (simp only [lens]; omega))) only [cds, hd])))
      exact ⟨_, Sub.refl, hq _ A Step.refl⟩
theorem arm_ac (A : DiskAt h p bn bs fs D) (n : Int) (hn : n < 9223372036854775808) (hq : ∀ h', DiskAt h' p bn bs fs (D.arm n) → Step (own p bn bs fs) (own p bn bs fs) h h' → Q (.tup []) h') : AC pg (.fn 8) [.ptr p 0, .int .i64 n] h Q := by
  refine AC.fn' (g := g8) rfl (by simp only [List.length_cons, List.length_nil, g8]; decide) ?_; simp only [g8]
  have hd := A.head
  have hb := A.deeds
  unfold Dk.arm at hq
  cases c : D.dead
  · rw [c] at hd hq
    rw [if_neg (by decide)] at hq
    have A' := A.nums A.room (l := max n (-1)) (d := D.dead) (by omega)
    rw [c] at A'
    ((try simp -implicitDefEqProofs only [later, laterE, laterD, laterR]); (repeat (first | simp -implicitDefEqProofs only [go_sem, ↓reduceIte, Nat.reduceEqDiff, Nat.reduceAdd, Nat.reduceLeDiff, Nat.reduceLT, Nat.reduceMul, reduceCtorEq, Int.reduceEq, Int.reduceLT, Int.reduceLE, Int.reduceNeg, Int.reduceToNat, Int.reduceMul, Int.reduceAdd, Int.reduceSub, hd] | simp (disch := (first | omega | (simp only [go_sem]; done) | (simp only [lens]; omega))) only [cds, hd])))
    exact ⟨_, Sub.refl, hq _ A' (Step.refl.put (.inl own_p))⟩
  · rw [c] at hd hq
    rw [if_pos rfl] at hq
    ((try simp -implicitDefEqProofs only [later, laterE, laterD, laterR]); (repeat (first | simp -implicitDefEqProofs only [go_sem, ↓reduceIte, Nat.reduceEqDiff, Nat.reduceAdd, Nat.reduceLeDiff, Nat.reduceLT, Nat.reduceMul, reduceCtorEq, Int.reduceEq, Int.reduceLT, Int.reduceLE, Int.reduceNeg, Int.reduceToNat, Int.reduceMul, Int.reduceAdd, Int.reduceSub, hd] | simp (disch := (first | omega | (simp only [go_sem]; done) | (simp only [lens]; omega))) only [cds, hd])))
    exact ⟨_, Sub.refl, hq _ A Step.refl⟩
end Go.Proofs.YtijipnkdabdioabGreatDoor
