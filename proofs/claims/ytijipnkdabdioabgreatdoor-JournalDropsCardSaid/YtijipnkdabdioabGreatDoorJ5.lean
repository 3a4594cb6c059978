/- The journal, walked, 4: Save, Load; JournalFull. -/
import Derived.Test.YtijipnkdabdioabGreatDoorJA
import Derived.Test.YtijipnkdabdioabGreatDoorD7
set_option linter.unusedSimpArgs false
set_option linter.unusedVariables false
namespace Go.Proofs.YtijipnkdabdioabGreatDoor
open Mir SumMath
variable {h : H} {Q : V → H → Prop} {p bn bs : Nat} {fs : List Nat} {D : Dk}
abbrev nmT : Txt := [106, 111, 117, 114, 110, 97, 108, 46, 110, 101, 119]
abbrev nmF : Txt := [106, 111, 117, 114, 110, 97, 108]
def thenD (r : Dk × Nat) (f : Dk → Dk × Nat) : Dk × Nat := if r.2 = 0 then f r.1 else r
def Dk.save1 (D : Dk) (s : Txt) : Dk × Nat := thenD (thenD (thenD (D.append nmT s) (·.sync nmT)) (·.rename nmT nmF)) (·.syncDir)
def Dk.save (D : Dk) (t : Txt) : Dk × Nat := if (D.size nmT).2 = 0 then thenD (D.remove nmT) (·.save1 (frame t)) else D.save1 (frame t)
def Dk.load (D : Dk) : Txt × Nat := if (D.size nmF).2 = 0 then if (D.read nmF 0 (D.size nmF).1).2 = 0 then opened (D.read nmF 0 (D.size nmF).1).1 else ([], (D.read nmF 0 (D.size nmF).1).2) else ([], (D.size nmF).2)
/-- What the program lays at the start is no disk's. -/
theorem own_not (A : DiskAt h p bn bs fs D) {g : Nat} {cs : List V} (e : h g = some (.cells cs true)) : ¬ own p bn bs fs g := by
  rintro (rfl | rfl | rfl | x)
  · rw [A.head] at e; cases e
  · obtain ⟨_, _, y, _⟩ := A.now; rw [y] at e; cases e
  · obtain ⟨_, _, y, _⟩ := A.safe; rw [y] at e; cases e
  · obtain ⟨cs, y⟩ := A.fileMem x; rw [y] at e; cases e
theorem HasPow.step {F' : Nat → Prop} {h' : H} (hG : HasPow h) (A : DiskAt h p bn bs fs D) (S : Step (own p bn bs fs) F' h h') : HasPow h' := S.keep _ _ (own_not A hG) hG
theorem HasErr.step {F' : Nat → Prop} {h' : H} (hE : HasErr h) (A : DiskAt h p bn bs fs D) (S : Step (own p bn bs fs) F' h h') : HasErr h' := ⟨S.keep _ _ (own_not A hE.syn) hE.syn, S.keep _ _ (own_not A hE.rng) hE.rng⟩
theorem thenD_ok {r : Dk × Nat} {f : Dk → Dk × Nat} (c : r.2 = 0) : thenD r f = f r.1 := if_pos c
theorem thenD_no {r : Dk × Nat} {f : Dk → Dk × Nat} (c : ¬ r.2 = 0) : thenD r f = r := if_neg c
theorem thenD0 {E : Dk} {f : Dk → Dk × Nat} : thenD (E, 0) f = f E := rfl
theorem thenD8 {E : Dk} {f : Dk → Dk × Nat} : thenD (E, 8) f = (E, 8) := rfl
theorem save_ac (A : DiskAt h p bn bs fs D) (t : Txt) (ht : t.length < 1099511627776) (hG : HasPow h) (hl : D.now.length < 1000000)
    (hq : ∀ h' bs' fs', DiskAt h' p bn bs' fs' (D.save t).1 → Step (own p bn bs fs) (own p bn bs' fs') h h' → Q (.int .i64 (D.save t).2) h') : AC pg (.fn 6) [.ptr p 0, .str t] h Q := by
  refine AC.fn' (g := g6) rfl (by simp only [List.length_cons, List.length_nil, g6]; decide) ?_; simp only [g6]
  ((try simp -implicitDefEqProofs only [later, laterE, laterD, laterR]); (repeat (first | simp -implicitDefEqProofs only [go_sem, ↓reduceIte, Nat.reduceEqDiff, Nat.reduceAdd, Nat.reduceLeDiff, Nat.reduceLT, Nat.reduceMul, reduceCtorEq, Int.reduceEq, Int.reduceLT, Int.reduceLE, Int.reduceNeg, Int.reduceToNat, Int.reduceMul, Int.reduceAdd, Int.reduceSub] | simp (disch := (first | omega | (simp only [go_sem]; done) | (simp only [lens]; omega))) only [cds])))
  refine size_ac A _ ?_
  unfold Dk.save at hq
  generalize hz : D.size nmT = z at *
  by_cases c0 : z.2 = 0
  · have e0 : ((z.2 : Nat) : Int) = 0 := by omega
    rw [if_pos c0] at hq
    have hll : (D.remove nmT).1.now.length ≤ D.now.length := by
      unfold Dk.remove Dk.change
      have hd : D.deed.now = D.now := deed_now
      split
      · exact Nat.le_refl _
      · split
        · exact Nat.le_refl _
        · split
          · rw [hd]; exact Nat.le_refl _
          · simp only [hd]; exact List.length_filter_le ..
    ((try simp -implicitDefEqProofs only [later, laterE, laterD, laterR]); (repeat (first | simp -implicitDefEqProofs only [go_sem, ↓reduceIte, Nat.reduceEqDiff, Nat.reduceAdd, Nat.reduceLeDiff, Nat.reduceLT, Nat.reduceMul, reduceCtorEq, Int.reduceEq, Int.reduceLT, Int.reduceLE, Int.reduceNeg, Int.reduceToNat, Int.reduceMul, Int.reduceAdd, Int.reduceSub, e0] | simp (disch := (first | omega | (simp only [go_sem]; done) | (simp only [lens]; omega))) only [cds, e0])))
    refine remove_ac A _ fun h0 A0 S0 => ?_
    generalize D.remove nmT = r0 at *
    by_cases cr : r0.2 = 0
    · have er : ((r0.2 : Nat) : Int) = 0 := by omega
      rw [thenD_ok cr] at hq
      obtain ⟨D0, n0⟩ := r0
      simp only at hq A0 hll er
      have hG0 := hG.step A S0
      have hl0 : D0.now.length < 1099511627776 := by omega
      ((try simp -implicitDefEqProofs only [later, laterE, laterD, laterR]); (repeat (first | simp -implicitDefEqProofs only [go_sem, ↓reduceIte, Nat.reduceEqDiff, Nat.reduceAdd, Nat.reduceLeDiff, Nat.reduceLT, Nat.reduceMul, reduceCtorEq, Int.reduceEq, Int.reduceLT, Int.reduceLE, Int.reduceNeg, Int.reduceToNat, Int.reduceMul, Int.reduceAdd, Int.reduceSub, er] | simp (disch := (first | omega | (simp only [go_sem]; done) | (simp only [lens]; omega))) only [cds, er])))
      refine frame_ac t ht hG0 ?_
      ((try simp -implicitDefEqProofs only [later, laterE, laterD, laterR]); (repeat (first | simp -implicitDefEqProofs only [go_sem, ↓reduceIte, Nat.reduceEqDiff, Nat.reduceAdd, Nat.reduceLeDiff, Nat.reduceLT, Nat.reduceMul, reduceCtorEq, Int.reduceEq, Int.reduceLT, Int.reduceLE, Int.reduceNeg, Int.reduceToNat, Int.reduceMul, Int.reduceAdd, Int.reduceSub] | simp (disch := (first | omega | (simp only [go_sem]; done) | (simp only [lens]; omega))) only [cds])))
      refine append_ac A0 _ _ hl0 fun h1 fs1 A1 S1 => ?_
      replace S1 := S0.trans S1
      unfold Dk.save1 at hq
      generalize D0.append nmT (frame t) = r1 at *
      by_cases c1 : r1.2 = 0
      · have e1 : ((r1.2 : Nat) : Int) = 0 := by omega
        ((try simp -implicitDefEqProofs only [later, laterE, laterD, laterR]); (repeat (first | simp -implicitDefEqProofs only [go_sem, ↓reduceIte, Nat.reduceEqDiff, Nat.reduceAdd, Nat.reduceLeDiff, Nat.reduceLT, Nat.reduceMul, reduceCtorEq, Int.reduceEq, Int.reduceLT, Int.reduceLE, Int.reduceNeg, Int.reduceToNat, Int.reduceMul, Int.reduceAdd, Int.reduceSub, e1] | simp (disch := (first | omega | (simp only [go_sem]; done) | (simp only [lens]; omega))) only [cds, e1])))
        refine sync_ac A1 _ fun h2 A2 S2 => ?_
        replace S2 := S1.trans S2
        rw [thenD_ok c1] at hq
        generalize r1.1.sync nmT = r2 at *
        by_cases c2 : r2.2 = 0
        · have e2 : ((r2.2 : Nat) : Int) = 0 := by omega
          ((try simp -implicitDefEqProofs only [later, laterE, laterD, laterR]); (repeat (first | simp -implicitDefEqProofs only [go_sem, ↓reduceIte, Nat.reduceEqDiff, Nat.reduceAdd, Nat.reduceLeDiff, Nat.reduceLT, Nat.reduceMul, reduceCtorEq, Int.reduceEq, Int.reduceLT, Int.reduceLE, Int.reduceNeg, Int.reduceToNat, Int.reduceMul, Int.reduceAdd, Int.reduceSub, e2] | simp (disch := (first | omega | (simp only [go_sem]; done) | (simp only [lens]; omega))) only [cds, e2])))
          refine rename_ac A2 _ _ fun h3 A3 S3 => ?_
          replace S3 := S2.trans S3
          rw [thenD_ok c2] at hq
          generalize r2.1.rename nmT nmF = r3 at *
          by_cases c3 : r3.2 = 0
          · have e3 : ((r3.2 : Nat) : Int) = 0 := by omega
            ((try simp -implicitDefEqProofs only [later, laterE, laterD, laterR]); (repeat (first | simp -implicitDefEqProofs only [go_sem, ↓reduceIte, Nat.reduceEqDiff, Nat.reduceAdd, Nat.reduceLeDiff, Nat.reduceLT, Nat.reduceMul, reduceCtorEq, Int.reduceEq, Int.reduceLT, Int.reduceLE, Int.reduceNeg, Int.reduceToNat, Int.reduceMul, Int.reduceAdd, Int.reduceSub, e3] | simp (disch := (first | omega | (simp only [go_sem]; done) | (simp only [lens]; omega))) only [cds, e3])))
            refine syncDir_ac A3 fun h4 bs4 A4 S4 => ?_
            rw [thenD_ok c3] at hq
            ((try simp -implicitDefEqProofs only [later, laterE, laterD, laterR]); (repeat (first | simp -implicitDefEqProofs only [go_sem, ↓reduceIte, Nat.reduceEqDiff, Nat.reduceAdd, Nat.reduceLeDiff, Nat.reduceLT, Nat.reduceMul, reduceCtorEq, Int.reduceEq, Int.reduceLT, Int.reduceLE, Int.reduceNeg, Int.reduceToNat, Int.reduceMul, Int.reduceAdd, Int.reduceSub] | simp (disch := (first | omega | (simp only [go_sem]; done) | (simp only [lens]; omega))) only [cds])))
            exact ⟨_, Sub.refl, hq _ _ _ A4 (S3.trans S4)⟩
          · have e3 : ¬ ((r3.2 : Nat) : Int) = 0 := by omega
            rw [thenD_no c3] at hq
            ((try simp -implicitDefEqProofs only [later, laterE, laterD, laterR]); (repeat (first | simp -implicitDefEqProofs only [go_sem, ↓reduceIte, Nat.reduceEqDiff, Nat.reduceAdd, Nat.reduceLeDiff, Nat.reduceLT, Nat.reduceMul, reduceCtorEq, Int.reduceEq, Int.reduceLT, Int.reduceLE, Int.reduceNeg, Int.reduceToNat, Int.reduceMul, Int.reduceAdd, Int.reduceSub, e3] | simp (disch := (first | omega | (simp only [go_sem]; done) | (simp only [lens]; omega))) only [cds, e3])))
            exact ⟨_, Sub.refl, hq _ _ _ A3 S3⟩
        · have e2 : ¬ ((r2.2 : Nat) : Int) = 0 := by omega
          rw [thenD_no c2, thenD_no c2] at hq
          ((try simp -implicitDefEqProofs only [later, laterE, laterD, laterR]); (repeat (first | simp -implicitDefEqProofs only [go_sem, ↓reduceIte, Nat.reduceEqDiff, Nat.reduceAdd, Nat.reduceLeDiff, Nat.reduceLT, Nat.reduceMul, reduceCtorEq, Int.reduceEq, Int.reduceLT, Int.reduceLE, Int.reduceNeg, Int.reduceToNat, Int.reduceMul, Int.reduceAdd, Int.reduceSub, e2] | simp (disch := (first | omega | (simp only [go_sem]; done) | (simp only [lens]; omega))) only [cds, e2])))
          exact ⟨_, Sub.refl, hq _ _ _ A2 S2⟩
      · have e1 : ¬ ((r1.2 : Nat) : Int) = 0 := by omega
        rw [thenD_no c1, thenD_no c1, thenD_no c1] at hq
        ((try simp -implicitDefEqProofs only [later, laterE, laterD, laterR]); (repeat (first | simp -implicitDefEqProofs only [go_sem, ↓reduceIte, Nat.reduceEqDiff, Nat.reduceAdd, Nat.reduceLeDiff, Nat.reduceLT, Nat.reduceMul, reduceCtorEq, Int.reduceEq, Int.reduceLT, Int.reduceLE, Int.reduceNeg, Int.reduceToNat, Int.reduceMul, Int.reduceAdd, Int.reduceSub, e1] | simp (disch := (first | omega | (simp only [go_sem]; done) | (simp only [lens]; omega))) only [cds, e1])))
        exact ⟨_, Sub.refl, hq _ _ _ A1 S1⟩
    · have er : ¬ ((r0.2 : Nat) : Int) = 0 := by omega
      rw [thenD_no cr] at hq
      ((try simp -implicitDefEqProofs only [later, laterE, laterD, laterR]); (repeat (first | simp -implicitDefEqProofs only [go_sem, ↓reduceIte, Nat.reduceEqDiff, Nat.reduceAdd, Nat.reduceLeDiff, Nat.reduceLT, Nat.reduceMul, reduceCtorEq, Int.reduceEq, Int.reduceLT, Int.reduceLE, Int.reduceNeg, Int.reduceToNat, Int.reduceMul, Int.reduceAdd, Int.reduceSub, er] | simp (disch := (first | omega | (simp only [go_sem]; done) | (simp only [lens]; omega))) only [cds, er])))
      exact ⟨_, Sub.refl, hq _ _ _ A0 S0⟩
  · have e0 : ¬ ((z.2 : Nat) : Int) = 0 := by omega
    rw [if_neg c0] at hq
    have A0 := A
    have S0 : Step (own p bn bs fs) (own p bn bs fs) h h := Step.refl
    have hG0 := hG
    have hl0 : D.now.length < 1099511627776 := by omega
    obtain ⟨D0, hD0⟩ : ∃ D0, D0 = D := ⟨_, rfl⟩
    subst hD0
    ((try simp -implicitDefEqProofs only [later, laterE, laterD, laterR]); (repeat (first | simp -implicitDefEqProofs only [go_sem, ↓reduceIte, Nat.reduceEqDiff, Nat.reduceAdd, Nat.reduceLeDiff, Nat.reduceLT, Nat.reduceMul, reduceCtorEq, Int.reduceEq, Int.reduceLT, Int.reduceLE, Int.reduceNeg, Int.reduceToNat, Int.reduceMul, Int.reduceAdd, Int.reduceSub, e0] | simp (disch := (first | omega | (simp only [go_sem]; done) | (simp only [lens]; omega))) only [cds, e0])))
    refine frame_ac t ht hG0 ?_
    ((try simp -implicitDefEqProofs only [later, laterE, laterD, laterR]); (repeat (first | simp -implicitDefEqProofs only [go_sem, ↓reduceIte, Nat.reduceEqDiff, Nat.reduceAdd, Nat.reduceLeDiff, Nat.reduceLT, Nat.reduceMul, reduceCtorEq, Int.reduceEq, Int.reduceLT, Int.reduceLE, Int.reduceNeg, Int.reduceToNat, Int.reduceMul, Int.reduceAdd, Int.reduceSub] | simp (disch := (first | omega | (simp only [go_sem]; done) | (simp only [lens]; omega))) only [cds])))
    refine append_ac A0 _ _ hl0 fun h1 fs1 A1 S1 => ?_
    replace S1 := S0.trans S1
    unfold Dk.save1 at hq
    generalize D0.append nmT (frame t) = r1 at *
    by_cases c1 : r1.2 = 0
    · have e1 : ((r1.2 : Nat) : Int) = 0 := by omega
      ((try simp -implicitDefEqProofs only [later, laterE, laterD, laterR]); (repeat (first | simp -implicitDefEqProofs only [go_sem, ↓reduceIte, Nat.reduceEqDiff, Nat.reduceAdd, Nat.reduceLeDiff, Nat.reduceLT, Nat.reduceMul, reduceCtorEq, Int.reduceEq, Int.reduceLT, Int.reduceLE, Int.reduceNeg, Int.reduceToNat, Int.reduceMul, Int.reduceAdd, Int.reduceSub, e1] | simp (disch := (first | omega | (simp only [go_sem]; done) | (simp only [lens]; omega))) only [cds, e1])))
      refine sync_ac A1 _ fun h2 A2 S2 => ?_
      replace S2 := S1.trans S2
      rw [thenD_ok c1] at hq
      generalize r1.1.sync nmT = r2 at *
      by_cases c2 : r2.2 = 0
      · have e2 : ((r2.2 : Nat) : Int) = 0 := by omega
        ((try simp -implicitDefEqProofs only [later, laterE, laterD, laterR]); (repeat (first | simp -implicitDefEqProofs only [go_sem, ↓reduceIte, Nat.reduceEqDiff, Nat.reduceAdd, Nat.reduceLeDiff, Nat.reduceLT, Nat.reduceMul, reduceCtorEq, Int.reduceEq, Int.reduceLT, Int.reduceLE, Int.reduceNeg, Int.reduceToNat, Int.reduceMul, Int.reduceAdd, Int.reduceSub, e2] | simp (disch := (first | omega | (simp only [go_sem]; done) | (simp only [lens]; omega))) only [cds, e2])))
        refine rename_ac A2 _ _ fun h3 A3 S3 => ?_
        replace S3 := S2.trans S3
        rw [thenD_ok c2] at hq
        generalize r2.1.rename nmT nmF = r3 at *
        by_cases c3 : r3.2 = 0
        · have e3 : ((r3.2 : Nat) : Int) = 0 := by omega
          ((try simp -implicitDefEqProofs only [later, laterE, laterD, laterR]); (repeat (first | simp -implicitDefEqProofs only [go_sem, ↓reduceIte, Nat.reduceEqDiff, Nat.reduceAdd, Nat.reduceLeDiff, Nat.reduceLT, Nat.reduceMul, reduceCtorEq, Int.reduceEq, Int.reduceLT, Int.reduceLE, Int.reduceNeg, Int.reduceToNat, Int.reduceMul, Int.reduceAdd, Int.reduceSub, e3] | simp (disch := (first | omega | (simp only [go_sem]; done) | (simp only [lens]; omega))) only [cds, e3])))
          refine syncDir_ac A3 fun h4 bs4 A4 S4 => ?_
          rw [thenD_ok c3] at hq
          ((try simp -implicitDefEqProofs only [later, laterE, laterD, laterR]); (repeat (first | simp -implicitDefEqProofs only [go_sem, ↓reduceIte, Nat.reduceEqDiff, Nat.reduceAdd, Nat.reduceLeDiff, Nat.reduceLT, Nat.reduceMul, reduceCtorEq, Int.reduceEq, Int.reduceLT, Int.reduceLE, Int.reduceNeg, Int.reduceToNat, Int.reduceMul, Int.reduceAdd, Int.reduceSub] | simp (disch := (first | omega | (simp only [go_sem]; done) | (simp only [lens]; omega))) only [cds])))
          exact ⟨_, Sub.refl, hq _ _ _ A4 (S3.trans S4)⟩
        · have e3 : ¬ ((r3.2 : Nat) : Int) = 0 := by omega
          rw [thenD_no c3] at hq
          ((try simp -implicitDefEqProofs only [later, laterE, laterD, laterR]); (repeat (first | simp -implicitDefEqProofs only [go_sem, ↓reduceIte, Nat.reduceEqDiff, Nat.reduceAdd, Nat.reduceLeDiff, Nat.reduceLT, Nat.reduceMul, reduceCtorEq, Int.reduceEq, Int.reduceLT, Int.reduceLE, Int.reduceNeg, Int.reduceToNat, Int.reduceMul, Int.reduceAdd, Int.reduceSub, e3] | simp (disch := (first | omega | (simp only [go_sem]; done) | (simp only [lens]; omega))) only [cds, e3])))
          exact ⟨_, Sub.refl, hq _ _ _ A3 S3⟩
      · have e2 : ¬ ((r2.2 : Nat) : Int) = 0 := by omega
        rw [thenD_no c2, thenD_no c2] at hq
        ((try simp -implicitDefEqProofs only [later, laterE, laterD, laterR]); (repeat (first | simp -implicitDefEqProofs only [go_sem, ↓reduceIte, Nat.reduceEqDiff, Nat.reduceAdd, Nat.reduceLeDiff, Nat.reduceLT, Nat.reduceMul, reduceCtorEq, Int.reduceEq, Int.reduceLT, Int.reduceLE, Int.reduceNeg, Int.reduceToNat, Int.reduceMul, Int.reduceAdd, Int.reduceSub, e2] | simp (disch := (first | omega | (simp only [go_sem]; done) | (simp only [lens]; omega))) only [cds, e2])))
        exact ⟨_, Sub.refl, hq _ _ _ A2 S2⟩
    · have e1 : ¬ ((r1.2 : Nat) : Int) = 0 := by omega
      rw [thenD_no c1, thenD_no c1, thenD_no c1] at hq
      ((try simp -implicitDefEqProofs only [later, laterE, laterD, laterR]); (repeat (first | simp -implicitDefEqProofs only [go_sem, ↓reduceIte, Nat.reduceEqDiff, Nat.reduceAdd, Nat.reduceLeDiff, Nat.reduceLT, Nat.reduceMul, reduceCtorEq, Int.reduceEq, Int.reduceLT, Int.reduceLE, Int.reduceNeg, Int.reduceToNat, Int.reduceMul, Int.reduceAdd, Int.reduceSub, e1] | simp (disch := (first | omega | (simp only [go_sem]; done) | (simp only [lens]; omega))) only [cds, e1])))
      exact ⟨_, Sub.refl, hq _ _ _ A1 S1⟩
theorem load_ac (A : DiskAt h p bn bs fs D) (hG : HasPow h) (hE : HasErr h) (hq : Q (.tup [.str D.load.1, .int .i64 D.load.2]) h) : AC pg (.fn 11) [.ptr p 0] h Q := by
  refine AC.fn' (g := g11) rfl (by simp only [List.length_cons, List.length_nil, g11]; decide) ?_; simp only [g11]
  ((try simp -implicitDefEqProofs only [later, laterE, laterD, laterR]); (repeat (first | simp -implicitDefEqProofs only [go_sem, ↓reduceIte, Nat.reduceEqDiff, Nat.reduceAdd, Nat.reduceLeDiff, Nat.reduceLT, Nat.reduceMul, reduceCtorEq, Int.reduceEq, Int.reduceLT, Int.reduceLE, Int.reduceNeg, Int.reduceToNat, Int.reduceMul, Int.reduceAdd, Int.reduceSub] | simp (disch := (first | omega | (simp only [go_sem]; done) | (simp only [lens]; omega))) only [cds])))
  refine size_ac A _ ?_
  unfold Dk.load at hq
  generalize hz : D.size nmF = z at *
  by_cases c0 : z.2 = 0
  · have e0 : ((z.2 : Nat) : Int) = 0 := by omega
    rw [if_pos c0] at hq
    ((try simp -implicitDefEqProofs only [later, laterE, laterD, laterR]); (repeat (first | simp -implicitDefEqProofs only [go_sem, ↓reduceIte, Nat.reduceEqDiff, Nat.reduceAdd, Nat.reduceLeDiff, Nat.reduceLT, Nat.reduceMul, reduceCtorEq, Int.reduceEq, Int.reduceLT, Int.reduceLE, Int.reduceNeg, Int.reduceToNat, Int.reduceMul, Int.reduceAdd, Int.reduceSub, e0] | simp (disch := (first | omega | (simp only [go_sem]; done) | (simp only [lens]; omega))) only [cds, e0])))
    refine read_ac A _ _ _ ?_
    have hrl : (D.read nmF 0 z.1).1.length < 1099511627776 := by
      unfold Dk.read
      split
      · simp
      · split
        · simp
        · split
          · simp
          · rename_i i _ _
            simp only [List.length_take, List.length_drop]
            have : (D.body i).1.length ≤ 1048576 := by
              unfold Dk.body
              cases hb : D.bodies[i]? with
              | none => simp
              | some b => exact (A.small _ (List.mem_of_getElem? hb)).1
            omega
    generalize D.read nmF 0 z.1 = r at *
    by_cases c1 : r.2 = 0
    · have e1 : ((r.2 : Nat) : Int) = 0 := by omega
      rw [if_pos c1] at hq
      ((try simp -implicitDefEqProofs only [later, laterE, laterD, laterR]); (repeat (first | simp -implicitDefEqProofs only [go_sem, ↓reduceIte, Nat.reduceEqDiff, Nat.reduceAdd, Nat.reduceLeDiff, Nat.reduceLT, Nat.reduceMul, reduceCtorEq, Int.reduceEq, Int.reduceLT, Int.reduceLE, Int.reduceNeg, Int.reduceToNat, Int.reduceMul, Int.reduceAdd, Int.reduceSub, e1] | simp (disch := (first | omega | (simp only [go_sem]; done) | (simp only [lens]; omega))) only [cds, e1])))
      refine open_ac r.1 hrl hG hE ?_
      ((try simp -implicitDefEqProofs only [later, laterE, laterD, laterR]); (repeat (first | simp -implicitDefEqProofs only [go_sem, ↓reduceIte, Nat.reduceEqDiff, Nat.reduceAdd, Nat.reduceLeDiff, Nat.reduceLT, Nat.reduceMul, reduceCtorEq, Int.reduceEq, Int.reduceLT, Int.reduceLE, Int.reduceNeg, Int.reduceToNat, Int.reduceMul, Int.reduceAdd, Int.reduceSub] | simp (disch := (first | omega | (simp only [go_sem]; done) | (simp only [lens]; omega))) only [cds])))
      exact ⟨_, Sub.refl, hq⟩
    · have e1 : ¬ ((r.2 : Nat) : Int) = 0 := by omega
      rw [if_neg c1] at hq
      ((try simp -implicitDefEqProofs only [later, laterE, laterD, laterR]); (repeat (first | simp -implicitDefEqProofs only [go_sem, ↓reduceIte, Nat.reduceEqDiff, Nat.reduceAdd, Nat.reduceLeDiff, Nat.reduceLT, Nat.reduceMul, reduceCtorEq, Int.reduceEq, Int.reduceLT, Int.reduceLE, Int.reduceNeg, Int.reduceToNat, Int.reduceMul, Int.reduceAdd, Int.reduceSub, e1] | simp (disch := (first | omega | (simp only [go_sem]; done) | (simp only [lens]; omega))) only [cds, e1])))
      exact ⟨_, Sub.refl, hq⟩
  · have e0 : ¬ ((z.2 : Nat) : Int) = 0 := by omega
    rw [if_neg c0] at hq
    ((try simp -implicitDefEqProofs only [later, laterE, laterD, laterR]); (repeat (first | simp -implicitDefEqProofs only [go_sem, ↓reduceIte, Nat.reduceEqDiff, Nat.reduceAdd, Nat.reduceLeDiff, Nat.reduceLT, Nat.reduceMul, reduceCtorEq, Int.reduceEq, Int.reduceLT, Int.reduceLE, Int.reduceNeg, Int.reduceToNat, Int.reduceMul, Int.reduceAdd, Int.reduceSub, e0] | simp (disch := (first | omega | (simp only [go_sem]; done) | (simp only [lens]; omega))) only [cds, e0])))
    exact ⟨_, Sub.refl, hq⟩
/-! The journal on a disk that doesn't die. -/
theorem deed_eq (hl : D.left = -1) : D.deed = D := by unfold Dk.deed; rw [hl]; rfl
theorem sync_eq {nm : Txt} {i : Nat} (hd : D.dead = false) (hl : D.left = -1) (hg : getL D.now nm = some i) : D.sync nm = ({ D with bodies := D.bodies.set i ((D.body i).1, (D.body i).1) }, 0) := by
  unfold Dk.sync Dk.change
  rw [if_neg (by rw [hd]; decide), hg]
  simp only
  rw [deed_eq hl, if_neg (by rw [hd]; decide)]; rfl
theorem rename_eq {nm to : Txt} {i : Nat} (hd : D.dead = false) (hl : D.left = -1) (hg : getL D.now nm = some i) (ho : nameOk to = true) : D.rename nm to = ({ D with now := putL (delL D.now nm) to i }, 0) := by
  unfold Dk.rename Dk.change
  rw [if_neg (by rw [ho]; simp), if_neg (by rw [hd]; decide), hg]
  simp only
  rw [deed_eq hl, if_neg (by rw [hd]; decide)]
theorem syncDir_eq (hd : D.dead = false) (hl : D.left = -1) : D.syncDir = ({ D with safe := D.now }, 0) := by
  unfold Dk.syncDir
  rw [if_neg (by rw [hd]; decide), deed_eq hl, if_neg (by rw [hd]; decide)]
structure Jn (D : Dk) (q : Nat) (o : Option Txt) : Prop where
  quota : D.quota = q
  left : D.left = -1
  dead : D.dead = false
  now : match o with
    | none => D.now = []
    | some s => ∃ i y, D.now = [(nmF, i)] ∧ D.bodies[i]? = some (s, y)
theorem Jn.new {q : Int} (hq : 0 ≤ q) : Jn (Dk.new q) q.toNat none := ⟨by simp [Dk.new]; omega, rfl, rfl, rfl⟩
theorem Jn.len {q : Nat} {o : Option Txt} (J : Jn D q o) : D.now.length ≤ 1 := by
  have := J.now
  cases o with
  | none => simp only at this; rw [this]; simp
  | some s => obtain ⟨i, y, h1, _⟩ := this; rw [h1]; simp
def roomOf (o : Option Txt) : Nat := match o with
  | none => 0
  | some s => s.length
theorem Jn.used {q : Nat} {o : Option Txt} (J : Jn D q o) : D.used = roomOf o := by
  have := J.now
  unfold Dk.used
  cases o with
  | none => simp only at this; rw [this]; rfl
  | some s => obtain ⟨i, y, h1, h2⟩ := this; rw [h1]; simp [Dk.body, h2, roomOf]
theorem Jn.save {q : Nat} {o : Option Txt} (J : Jn D q o) (t : Txt) (ht : (frame t).length ≤ 1048576) :
    (q < roomOf o + (frame t).length → D.save t = (D, 7)) ∧ (roomOf o + (frame t).length ≤ q → ∃ D', D.save t = (D', 0) ∧ Jn D' q (some (frame t))) := by
  have hu := J.used
  have hl := J.len
  obtain ⟨B, now, safe, q', left, dead⟩ := D
  obtain ⟨j1, j2, j3, j4⟩ := J
  simp only at j1 j2 j3 j4
  subst j1; subst j2; subst j3
  unfold Dk.save Dk.save1
  generalize frame t = s at *
  have hT : getL now nmT = none := by
    cases o with
    | none => simp only at j4; rw [j4]; rfl
    | some x => obtain ⟨i, y, h1, _⟩ := j4; rw [h1]; rfl
  have hz : (Dk.size ⟨B, now, safe, q', -1, false⟩ nmT).2 = 5 := by simp [Dk.size, hT]
  have ha := append_new (D := ⟨B, now, safe, q', -1, false⟩) (name := nmT) (t := s) rfl rfl hT (by simp only; simp only at hl; omega) rfl ht
  rw [hu] at ha
  constructor
  · intro hlt
    rw [if_pos (by simp only; omega)] at ha
    rw [hz, if_neg (by decide), ha]
    rfl
  · intro hle
    rw [if_neg (by simp only; omega)] at ha
    rw [hz, if_neg (by decide), ha]
    have hg : getL (now ++ [(nmT, B.length)]) nmT = some B.length := by rw [getL_append, hT]; rfl
    rw [thenD0, sync_eq rfl rfl hg, thenD0, rename_eq (i := B.length) rfl rfl hg (by rfl), thenD0, syncDir_eq rfl rfl]
    refine ⟨_, rfl, rfl, rfl, rfl, B.length, s, ?_, ?_⟩
    · cases o with
      | none => simp only at j4; rw [j4]; rfl
      | some x => obtain ⟨i, y, h1, _⟩ := j4; rw [h1]; rfl
    · simp [Dk.body]
theorem Jn.save' {q : Nat} {o : Option Txt} (J : Jn D q o) (t : Txt) (ht : (frame t).length ≤ 1048576) :
    ∃ D', (D.save t = (D', 7) ∧ Jn D' q o) ∨ (D.save t = (D', 0) ∧ Jn D' q (some (frame t))) := by
  by_cases c : q < roomOf o + (frame t).length
  · exact ⟨D, .inl ⟨(J.save t ht).1 c, J⟩⟩
  · obtain ⟨D', h1, h2⟩ := (J.save t ht).2 (by omega)
    exact ⟨D', .inr ⟨h1, h2⟩⟩
theorem Jn.load {q : Nat} {o : Option Txt} (J : Jn D q o) : D.load = match o with
    | none => ([], 5)
    | some s => opened s := by
  have hd := J.dead
  cases o with
  | none =>
    have hn : D.now = [] := J.now
    have hz : D.size nmF = (0, 5) := by unfold Dk.size; rw [if_neg (by rw [hd]; decide), hn]; rfl
    unfold Dk.load
    rw [hz]; rfl
  | some s =>
    obtain ⟨i, y, h1, h2⟩ := J.now
    have hg : getL D.now nmF = some i := by rw [h1]; rfl
    have hb : D.body i = (s, y) := by simp [Dk.body, h2]
    have hz : D.size nmF = (s.length, 0) := by unfold Dk.size; rw [if_neg (by rw [hd]; decide), hg]; simp [hb]
    have hr : D.read nmF 0 s.length = (s, 0) := by unfold Dk.read; rw [if_neg (by rw [hd]; decide), hg]; simp [hb]
    unfold Dk.load
    rw [hz]
    simp only [hr, if_true]
theorem Jn.quotaTo {q : Nat} {o : Option Txt} (J : Jn D q o) (n : Int) : Jn (D.setQuota n) (max n 0).toNat o := ⟨rfl, J.left, J.dead, J.now⟩
end Go.Proofs.YtijipnkdabdioabGreatDoor
