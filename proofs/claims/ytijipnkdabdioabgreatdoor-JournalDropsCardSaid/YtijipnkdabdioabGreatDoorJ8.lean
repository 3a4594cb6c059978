/- The journal, walked, 6: Drop; JournalDrops. -/
import Derived.Test.YtijipnkdabdioabGreatDoorJ6
set_option linter.unusedSimpArgs false
set_option linter.unusedVariables false
namespace Go.Proofs.YtijipnkdabdioabGreatDoor
open Mir SumMath
variable {h : H} {Q : V → H → Prop} {p bn bs : Nat} {fs : List Nat} {D : Dk}
theorem delL_out {α : Type} {l : List (Txt × α)} {k : Txt} (e : getL l k = none) : delL l k = l := by
  induction l with
  | nil => rfl
  | cons a l ih =>
    rw [getL_cons] at e
    split at e
    · cases e
    · rename_i hne
      have := ih e
      unfold delL at *
      rw [List.filter_cons, if_pos (by simpa using hne), this]
theorem remove_eq {nm : Txt} {i : Nat} (hd : D.dead = false) (hl : D.left = -1) (hg : getL D.now nm = some i) : D.remove nm = ({ D with now := delL D.now nm }, 0) := by
  unfold Dk.remove Dk.change
  rw [if_neg (by rw [hd]; decide), hg]
  simp only
  rw [deed_eq hl, if_neg (by rw [hd]; decide)]
def dropL (l : List (Txt × Nat)) (i : Nat) : List (Txt × Nat) := if i = 0 then l else if i = 1 then delL l nmT else delL (delL l nmT) nmF
def nmI (i : Nat) : Txt := if i = 0 then nmT else nmF
theorem dropL_succ (l : List (Txt × Nat)) {i : Nat} (hi : i < 2) : dropL l (i + 1) = delL (dropL l i) (nmI i) := by
  have : i = 0 ∨ i = 1 := by omega
  rcases this with rfl | rfl <;> rfl
theorem drop_ac (A : DiskAt h p bn bs fs D) (hd : D.dead = false) (hl : D.left = -1)
    (hq : ∀ h' bs', DiskAt h' p bn bs' fs { D with now := dropL D.now 2, safe := dropL D.now 2 } → Step (own p bn bs fs) (own p bn bs' fs) h h' → Q (.int .i64 0) h') : AC pg (.fn 10) [.ptr p 0] h Q := by
  refine AC.fn' (g := g10) rfl (by simp only [List.length_cons, List.length_nil, g10]; decide) ?_; simp only [g10]
  ((try simp -implicitDefEqProofs only [later, laterE, laterD, laterR]); (repeat (first | simp -implicitDefEqProofs only [go_sem, ↓reduceIte, Nat.reduceEqDiff, Nat.reduceAdd, Nat.reduceLeDiff, Nat.reduceLT, Nat.reduceMul, reduceCtorEq, Int.reduceEq, Int.reduceLT, Int.reduceLE, Int.reduceNeg, Int.reduceToNat, Int.reduceMul, Int.reduceAdd, Int.reduceSub] | simp (disch := (first | omega | (simp only [go_sem]; done) | (simp only [lens]; omega))) only [cds])))
  intro b hb
  have A1 := A.new (o := .cells [.str nmT, .str nmF] false) hb
  have S1 : Step (own p bn bs fs) (own p bn bs fs) h (hadd h b (.cells [.str nmT, .str nmF] false)) := Step.refl.put (.inr hb)
  have nb := A.free hb
  ((try simp -implicitDefEqProofs only [later, laterE, laterD, laterR]); (repeat (first | simp -implicitDefEqProofs only [go_sem, ↓reduceIte, Nat.reduceEqDiff, Nat.reduceAdd, Nat.reduceLeDiff, Nat.reduceLT, Nat.reduceMul, reduceCtorEq, Int.reduceEq, Int.reduceLT, Int.reduceLE, Int.reduceNeg, Int.reduceToNat, Int.reduceMul, Int.reduceAdd, Int.reduceSub] | simp (disch := (first | omega | (simp only [go_sem]; done) | (simp only [lens]; omega))) only [cds])))
  refine E.loopX AC.mono (fun (i : Nat) a' h' => i ≤ 2 ∧ DiskAt h' p bn bs fs { D with now := dropL D.now i } ∧ Step (own p bn bs fs) (own p bn bs fs) h h' ∧ h' b = some (.cells [.str nmT, .str nmF] false) ∧ a'.d = [] ∧ a'.t 0 = .ptr p 0 ∧ a'.t 8 = .sl b 0 1 2 ∧ a'.t 9 = .int .i64 2 ∧ a'.t 10 = .int .i64 i) (fun i => 2 - i) 0 ?_ ?_
  · refine ⟨by omega, A1, S1, hadd_same, ?_⟩
    ((try simp -implicitDefEqProofs only [later, laterE, laterD, laterR]); (repeat (first | simp -implicitDefEqProofs only [go_sem, ↓reduceIte, Nat.reduceEqDiff, Nat.reduceAdd, Nat.reduceLeDiff, Nat.reduceLT, Nat.reduceMul, reduceCtorEq, Int.reduceEq, Int.reduceLT, Int.reduceLE, Int.reduceNeg, Int.reduceToNat, Int.reduceMul, Int.reduceAdd, Int.reduceSub] | simp (disch := (first | omega | (simp only [go_sem]; done) | (simp only [lens]; omega))) only [cds])))
  · rintro i ⟨t, d⟩ h' ⟨hi, A2, S2, hbb, hdd, t0, t8, t9, t10⟩
    simp only at hdd t0 t8 t9 t10; subst hdd
    by_cases c : (i : Int) < 2
    · have hx : ([V.str nmT, V.str nmF])[i]? = some (.str (nmI i)) := by
        have : i = 0 ∨ i = 1 := by omega
        rcases this with rfl | rfl <;> rfl
      ((try simp -implicitDefEqProofs only [later, laterE, laterD, laterR]); (repeat (first | simp -implicitDefEqProofs only [go_sem, ↓reduceIte, Nat.reduceEqDiff, Nat.reduceAdd, Nat.reduceLeDiff, Nat.reduceLT, Nat.reduceMul, reduceCtorEq, Int.reduceEq, Int.reduceLT, Int.reduceLE, Int.reduceNeg, Int.reduceToNat, Int.reduceMul, Int.reduceAdd, Int.reduceSub, t0, t8, t9, t10, hbb, hx] | simp (disch := (first | omega | (simp only [go_sem]; done) | (simp only [lens]; omega))) only [cds, t0, t8, t9, t10, hbb, hx])))
      refine size_ac A2 _ ?_
      cases hg : getL (dropL D.now i) (nmI i) with
      | none =>
        have hz : (Dk.size { D with now := dropL D.now i } (nmI i)) = (0, 5) := by unfold Dk.size; rw [if_neg (by rw [hd]; decide), hg]
        rw [hz]
        ((try simp -implicitDefEqProofs only [later, laterE, laterD, laterR]); (repeat (first | simp -implicitDefEqProofs only [go_sem, ↓reduceIte, Nat.reduceEqDiff, Nat.reduceAdd, Nat.reduceLeDiff, Nat.reduceLT, Nat.reduceMul, reduceCtorEq, Int.reduceEq, Int.reduceLT, Int.reduceLE, Int.reduceNeg, Int.reduceToNat, Int.reduceMul, Int.reduceAdd, Int.reduceSub, t0, t8, t9, t10] | simp (disch := (first | omega | (simp only [go_sem]; done) | (simp only [lens]; omega))) only [cds, t0, t8, t9, t10])))
        refine ⟨i + 1, ?_⟩
        ((try simp -implicitDefEqProofs only [later, laterE, laterD, laterR]); (repeat (first | simp -implicitDefEqProofs only [go_sem, ↓reduceIte, Nat.reduceEqDiff, Nat.reduceAdd, Nat.reduceLeDiff, Nat.reduceLT, Nat.reduceMul, reduceCtorEq, Int.reduceEq, Int.reduceLT, Int.reduceLE, Int.reduceNeg, Int.reduceToNat, Int.reduceMul, Int.reduceAdd, Int.reduceSub, t0, t8, t9, t10] | simp (disch := (first | omega | (simp only [go_sem]; done) | (simp only [lens]; omega))) only [cds, t0, t8, t9, t10])))
        refine ⟨by omega, by omega, ?_, S2, hbb, ?_⟩
        · rw [dropL_succ _ (by omega), delL_out hg]; exact A2
        · ((repeat' apply And.intro) <;> (first | omega | rfl | assumption | (congr 1 <;> omega) | skip))
      | some j =>
        have hz : (Dk.size { D with now := dropL D.now i } (nmI i)).2 = 0 := by unfold Dk.size; rw [if_neg (by rw [hd]; decide), hg]
        generalize Dk.size { D with now := dropL D.now i } (nmI i) = z at *
        have hz' : ((z.2 : Nat) : Int) = 0 := by omega
        ((try simp -implicitDefEqProofs only [later, laterE, laterD, laterR]); (repeat (first | simp -implicitDefEqProofs only [go_sem, ↓reduceIte, Nat.reduceEqDiff, Nat.reduceAdd, Nat.reduceLeDiff, Nat.reduceLT, Nat.reduceMul, reduceCtorEq, Int.reduceEq, Int.reduceLT, Int.reduceLE, Int.reduceNeg, Int.reduceToNat, Int.reduceMul, Int.reduceAdd, Int.reduceSub, t0, t8, t9, t10, hz'] | simp (disch := (first | omega | (simp only [go_sem]; done) | (simp only [lens]; omega))) only [cds, t0, t8, t9, t10, hz'])))
        refine remove_ac A2 _ fun h3 A3 S3 => ?_
        rw [remove_eq (D := { D with now := dropL D.now i }) hd hl hg] at A3 ⊢
        ((try simp -implicitDefEqProofs only [later, laterE, laterD, laterR]); (repeat (first | simp -implicitDefEqProofs only [go_sem, ↓reduceIte, Nat.reduceEqDiff, Nat.reduceAdd, Nat.reduceLeDiff, Nat.reduceLT, Nat.reduceMul, reduceCtorEq, Int.reduceEq, Int.reduceLT, Int.reduceLE, Int.reduceNeg, Int.reduceToNat, Int.reduceMul, Int.reduceAdd, Int.reduceSub, t0, t8, t9, t10] | simp (disch := (first | omega | (simp only [go_sem]; done) | (simp only [lens]; omega))) only [cds, t0, t8, t9, t10])))
        refine ⟨i + 1, ?_⟩
        ((try simp -implicitDefEqProofs only [later, laterE, laterD, laterR]); (repeat (first | simp -implicitDefEqProofs only [go_sem, ↓reduceIte, Nat.reduceEqDiff, Nat.reduceAdd, Nat.reduceLeDiff, Nat.reduceLT, Nat.reduceMul, reduceCtorEq, Int.reduceEq, Int.reduceLT, Int.reduceLE, Int.reduceNeg, Int.reduceToNat, Int.reduceMul, Int.reduceAdd, Int.reduceSub, t0, t8, t9, t10] | simp (disch := (first | omega | (simp only [go_sem]; done) | (simp only [lens]; omega))) only [cds, t0, t8, t9, t10])))
        refine ⟨by omega, by omega, ?_, S2.trans S3, S3.keep _ _ nb hbb, ?_⟩
        · rw [dropL_succ _ (by omega)]; exact A3
        · ((repeat' apply And.intro) <;> (first | omega | rfl | assumption | (congr 1 <;> omega) | skip))
    · have : i = 2 := by omega
      subst this
      ((try simp -implicitDefEqProofs only [later, laterE, laterD, laterR]); (repeat (first | simp -implicitDefEqProofs only [go_sem, ↓reduceIte, Nat.reduceEqDiff, Nat.reduceAdd, Nat.reduceLeDiff, Nat.reduceLT, Nat.reduceMul, reduceCtorEq, Int.reduceEq, Int.reduceLT, Int.reduceLE, Int.reduceNeg, Int.reduceToNat, Int.reduceMul, Int.reduceAdd, Int.reduceSub, t0, t8, t9, t10] | simp (disch := (first | omega | (simp only [go_sem]; done) | (simp only [lens]; omega))) only [cds, t0, t8, t9, t10])))
      refine syncDir_ac A2 fun h3 bs3 A3 S3 => ?_
      rw [syncDir_eq (D := { D with now := dropL D.now 2 }) hd hl] at A3 ⊢
      ((try simp -implicitDefEqProofs only [later, laterE, laterD, laterR]); (repeat (first | simp -implicitDefEqProofs only [go_sem, ↓reduceIte, Nat.reduceEqDiff, Nat.reduceAdd, Nat.reduceLeDiff, Nat.reduceLT, Nat.reduceMul, reduceCtorEq, Int.reduceEq, Int.reduceLT, Int.reduceLE, Int.reduceNeg, Int.reduceToNat, Int.reduceMul, Int.reduceAdd, Int.reduceSub] | simp (disch := (first | omega | (simp only [go_sem]; done) | (simp only [lens]; omega))) only [cds])))
      exact ⟨_, Sub.refl, hq _ _ A3 (S2.trans S3)⟩
theorem Shape.dropped {B : List (Txt × Txt)} {l : List (Txt × Nat)} {o : Option Txt} (S : Shape B l o) : dropL l 2 = [] := by
  obtain ⟨_, _, _, s1, s2⟩ := S.cases
  have := s1.noT s2
  unfold dropL
  rw [if_neg (by decide), if_neg (by decide)]
  cases o with
  | none => rw [show delL l nmT = [] from this]; rfl
  | some x => obtain ⟨_, i, e, _⟩ := this; rw [e]; rfl
end Go.Proofs.YtijipnkdabdioabGreatDoor
