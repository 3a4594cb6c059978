/- The disk, 7: renames, removals, reading, putting. -/
import Derived.Test.YtijipnkdabdioabGreatDoorD6
set_option linter.unusedSimpArgs false
set_option linter.unusedVariables false
namespace Go.Proofs.YtijipnkdabdioabGreatDoor
open Mir
def Dk.read (D : Dk) (name : Txt) (at' n : Int) : Txt × Nat :=
  if D.dead = true then ([], 8) else match getL D.now name with
    | none => ([], 5)
    | some i => if (decide (at' < 0) || decide (n < 0)) = true then ([], 1) else (((D.body i).1.drop at'.toNat).take n.toNat, 0)
def Dk.size (D : Dk) (name : Txt) : Nat × Nat :=
  if D.dead = true then (0, 8) else match getL D.now name with
    | none => (0, 5)
    | some i => ((D.body i).1.length, 0)
def Dk.put (D : Dk) (name t : Txt) : Dk × Nat :=
  if (!nameOk name || decide (1048576 < t.length)) = true then (D, 1)
  else ({ D with bodies := D.bodies ++ [(t, t)], now := putL D.now name D.bodies.length, safe := putL D.safe name D.bodies.length }, 0)
variable {h : H} {p bn bs : Nat} {fs : List Nat} {D : Dk} {Q : V → H → Prop}
theorem ents_del {name : Txt} {l : List (Txt × Nat)} : delL (ents fs l) name = ents fs (delL l name) := by unfold ents; rw [delL_map]
theorem del_lt {l : List (Txt × Nat)} {name : Txt} {n : Nat} (hl : ∀ e ∈ l, e.2 < n) : ∀ e ∈ delL l name, e.2 < n := fun e he => hl e (List.mem_filter.1 he).1
theorem remove_ac (A : DiskAt h p bn bs fs D) (name : Txt) (hq : ∀ h', DiskAt h' p bn bs fs (D.remove name).1 → Step (own p bn bs fs) (own p bn bs fs) h h' → Q (.int .i64 (D.remove name).2) h') :
    AC pg (.fn 14) [.ptr p 0, .str name] h Q := by
  refine AC.fn' (g := g14) rfl (by simp only [List.length_cons, List.length_nil, g14]; decide) ?_; simp only [g14]
  ((try simp -implicitDefEqProofs only [later, laterE, laterD, laterR]); (repeat (first | simp -implicitDefEqProofs only [go_sem, ↓reduceIte, Nat.reduceEqDiff, Nat.reduceAdd, Nat.reduceLeDiff, Nat.reduceLT, Nat.reduceMul, reduceCtorEq, Int.reduceEq, Int.reduceLT, Int.reduceLE, Int.reduceNeg, Int.reduceToNat, Int.reduceMul, Int.reduceAdd, Int.reduceSub] | simp (disch := (first | omega | (simp only [go_sem]; done) | (simp only [lens]; omega))) only [cds])))
  intro b1 h1
  ((try simp -implicitDefEqProofs only [later, laterE, laterD, laterR]); (repeat (first | simp -implicitDefEqProofs only [go_sem, ↓reduceIte, Nat.reduceEqDiff, Nat.reduceAdd, Nat.reduceLeDiff, Nat.reduceLT, Nat.reduceMul, reduceCtorEq, Int.reduceEq, Int.reduceLT, Int.reduceLE, Int.reduceNeg, Int.reduceToNat, Int.reduceMul, Int.reduceAdd, Int.reduceSub] | simp (disch := (first | omega | (simp only [go_sem]; done) | (simp only [lens]; omega))) only [cds])))
  intro b2 h2
  rw [hadd_none] at h2
  have A0 : DiskAt (hadd (hadd h b1 (.cells [.ptr p 0] false)) b2 (.cells [.str name] false)) p bn bs fs D := (A.new h1).new (by rw [hadd_none]; exact h2)
  have S0 : Step (own p bn bs fs) (own p bn bs fs) h (hadd (hadd h b1 (.cells [.ptr p 0] false)) b2 (.cells [.str name] false)) := (Step.refl.put (.inr h1)).put (.inr h2.2)
  have e1 : (hadd (hadd h b1 (.cells [.ptr p 0] false)) b2 (.cells [.str name] false)) b1 = some (.cells [.ptr p 0] false) := by rw [hadd_ne' (Ne.symm h2.1), hadd_same]
  have e2 : (hadd (hadd h b1 (.cells [.ptr p 0] false)) b2 (.cells [.str name] false)) b2 = some (.cells [.str name] false) := hadd_same
  have n1 := A.free h1
  have n2 := A.free h2.2
  generalize hadd (hadd h b1 (.cells [.ptr p 0] false)) b2 (.cells [.str name] false) = h0 at *
  ((try simp -implicitDefEqProofs only [later, laterE, laterD, laterR]); (repeat (first | simp -implicitDefEqProofs only [go_sem, ↓reduceIte, Nat.reduceEqDiff, Nat.reduceAdd, Nat.reduceLeDiff, Nat.reduceLT, Nat.reduceMul, reduceCtorEq, Int.reduceEq, Int.reduceLT, Int.reduceLE, Int.reduceNeg, Int.reduceToNat, Int.reduceMul, Int.reduceAdd, Int.reduceSub, e1, e2] | simp (disch := (first | omega | (simp only [go_sem]; done) | (simp only [lens]; omega))) only [cds, e1, e2])))
  refine change_ac A0 name (f := fun i D => { D with now := delL D.now name }) (fun h1 i x b c0 c1 c2 A1 S1 x1 x2 x3 => ?_) fun h' A' S' => ?_
  · refine AC.fn' (g := g27) rfl (by simp only [List.length_cons, List.length_nil, g27]; decide) ?_; simp only [g27]
    have k1 := S1.keep _ _ n1 e1
    have k2 := S1.keep _ _ n2 e2
    have hd := A1.head
    obtain ⟨es, ck, hbn, R⟩ := A1.now
    have R' := R.del (k := name)
    rw [ents_del] at R'
    have hdel := R.dele (k := name) (b := bn) (h := h1)
    ((try simp -implicitDefEqProofs only [later, laterE, laterD, laterR]); (repeat (first | simp -implicitDefEqProofs only [go_sem, ↓reduceIte, Nat.reduceEqDiff, Nat.reduceAdd, Nat.reduceLeDiff, Nat.reduceLT, Nat.reduceMul, reduceCtorEq, Int.reduceEq, Int.reduceLT, Int.reduceLE, Int.reduceNeg, Int.reduceToNat, Int.reduceMul, Int.reduceAdd, Int.reduceSub, k1, k2, hd, hbn, hdel] | simp (disch := (first | omega | (simp only [go_sem]; done) | (simp only [lens]; omega))) only [cds, k1, k2, hd, hbn, hdel])))
    exact ⟨_, Sub.refl, A1.setNow R' (del_lt A1.nowIn), Step.refl.put (.inl own_bn)⟩
  · ((try simp -implicitDefEqProofs only [later, laterE, laterD, laterR]); (repeat (first | simp -implicitDefEqProofs only [go_sem, ↓reduceIte, Nat.reduceEqDiff, Nat.reduceAdd, Nat.reduceLeDiff, Nat.reduceLT, Nat.reduceMul, reduceCtorEq, Int.reduceEq, Int.reduceLT, Int.reduceLE, Int.reduceNeg, Int.reduceToNat, Int.reduceMul, Int.reduceAdd, Int.reduceSub] | simp (disch := (first | omega | (simp only [go_sem]; done) | (simp only [lens]; omega))) only [cds])))
    exact ⟨_, Sub.refl, hq _ A' (S0.trans S')⟩
theorem rename_ac (A : DiskAt h p bn bs fs D) (frm to : Txt) (hq : ∀ h', DiskAt h' p bn bs fs (D.rename frm to).1 → Step (own p bn bs fs) (own p bn bs fs) h h' → Q (.int .i64 (D.rename frm to).2) h') :
    AC pg (.fn 18) [.ptr p 0, .str frm, .str to] h Q := by
  refine AC.fn' (g := g18) rfl (by simp only [List.length_cons, List.length_nil, g18]; decide) ?_; simp only [g18]
  ((try simp -implicitDefEqProofs only [later, laterE, laterD, laterR]); (repeat (first | simp -implicitDefEqProofs only [go_sem, ↓reduceIte, Nat.reduceEqDiff, Nat.reduceAdd, Nat.reduceLeDiff, Nat.reduceLT, Nat.reduceMul, reduceCtorEq, Int.reduceEq, Int.reduceLT, Int.reduceLE, Int.reduceNeg, Int.reduceToNat, Int.reduceMul, Int.reduceAdd, Int.reduceSub] | simp (disch := (first | omega | (simp only [go_sem]; done) | (simp only [lens]; omega))) only [cds])))
  intro b1 h1
  ((try simp -implicitDefEqProofs only [later, laterE, laterD, laterR]); (repeat (first | simp -implicitDefEqProofs only [go_sem, ↓reduceIte, Nat.reduceEqDiff, Nat.reduceAdd, Nat.reduceLeDiff, Nat.reduceLT, Nat.reduceMul, reduceCtorEq, Int.reduceEq, Int.reduceLT, Int.reduceLE, Int.reduceNeg, Int.reduceToNat, Int.reduceMul, Int.reduceAdd, Int.reduceSub] | simp (disch := (first | omega | (simp only [go_sem]; done) | (simp only [lens]; omega))) only [cds])))
  intro b2 h2
  rw [hadd_none] at h2
  ((try simp -implicitDefEqProofs only [later, laterE, laterD, laterR]); (repeat (first | simp -implicitDefEqProofs only [go_sem, ↓reduceIte, Nat.reduceEqDiff, Nat.reduceAdd, Nat.reduceLeDiff, Nat.reduceLT, Nat.reduceMul, reduceCtorEq, Int.reduceEq, Int.reduceLT, Int.reduceLE, Int.reduceNeg, Int.reduceToNat, Int.reduceMul, Int.reduceAdd, Int.reduceSub] | simp (disch := (first | omega | (simp only [go_sem]; done) | (simp only [lens]; omega))) only [cds])))
  intro b3 h3
  rw [hadd_none, hadd_none] at h3
  have A0 : DiskAt (hadd (hadd (hadd h b1 (.cells [.ptr p 0] false)) b2 (.cells [.str frm] false)) b3 (.cells [.str to] false)) p bn bs fs D := ((A.new h1).new (by rw [hadd_none]; exact h2)).new (by rw [hadd_none, hadd_none]; exact h3)
  have S0 : Step (own p bn bs fs) (own p bn bs fs) h (hadd (hadd (hadd h b1 (.cells [.ptr p 0] false)) b2 (.cells [.str frm] false)) b3 (.cells [.str to] false)) := ((Step.refl.put (.inr h1)).put (.inr h2.2)).put (.inr h3.2.2)
  have e1 : (hadd (hadd (hadd h b1 (.cells [.ptr p 0] false)) b2 (.cells [.str frm] false)) b3 (.cells [.str to] false)) b1 = some (.cells [.ptr p 0] false) := by rw [hadd_ne' (Ne.symm h3.2.1), hadd_ne' (Ne.symm h2.1), hadd_same]
  have e2 : (hadd (hadd (hadd h b1 (.cells [.ptr p 0] false)) b2 (.cells [.str frm] false)) b3 (.cells [.str to] false)) b2 = some (.cells [.str frm] false) := by rw [hadd_ne' (Ne.symm h3.1), hadd_same]
  have e3 : (hadd (hadd (hadd h b1 (.cells [.ptr p 0] false)) b2 (.cells [.str frm] false)) b3 (.cells [.str to] false)) b3 = some (.cells [.str to] false) := hadd_same
  have n1 := A.free h1
  have n2 := A.free h2.2
  have n3 := A.free h3.2.2
  generalize hadd (hadd (hadd h b1 (.cells [.ptr p 0] false)) b2 (.cells [.str frm] false)) b3 (.cells [.str to] false) = h0 at *
  have hd := A0.head
  obtain ⟨es, ck, hbn, R⟩ := A0.now
  have hlook := R.look (k := frm) (z := .nilptr)
  have fin : (!D.dead && (getL D.now frm).isSome && !nameOk to) = false → AC pg (.fn 26) [.ptr p 0, .str frm, .fn 34 [] [.ptr b1 0, .ptr b2 0, .ptr b3 0]] h0 fun v h' => ∃ e : Nat, v = .int .i64 e ∧ Q v h' := fun hno => by
    unfold Dk.rename at hq
    rw [if_neg (by rw [hno]; decide)] at hq
    refine change_ac A0 frm (f := fun i D => { D with now := putL (delL D.now frm) to i }) (fun h1 i x b c0 c1 c2 A1 S1 x1 x2 x3 => ?_) fun h' A' S' => ?_
    · refine AC.fn' (g := g34) rfl (by simp only [List.length_cons, List.length_nil, g34]; decide) ?_; simp only [g34]
      have k1 := S1.keep _ _ n1 e1
      have k2 := S1.keep _ _ n2 e2
      have k3 := S1.keep _ _ n3 e3
      have hd := A1.head
      obtain ⟨es, ck, hbn, R⟩ := A1.now
      have R' := R.del (k := frm)
      rw [ents_del] at R'
      have hdel := R.dele (k := frm) (b := bn) (h := h1)
      have A2 := A1.setNow R' (del_lt A1.nowIn)
      obtain ⟨es3, ck3, hmu, R3⟩ := R'.put (k := to) (v := .ptr x 0) (b := bn) (h := hadd h1 bn (.map (delK (.one .str) (.str frm) es) ck))
      rw [ents_put x1] at R3
      have hi : i < D.deed.bodies.length := (List.getElem?_eq_some_iff.1 x2).1
      have A3 := A2.setNow R3 (put_lt (del_lt A1.nowIn) hi)
      have hd2 := A2.head
      rw [hadd_twice] at A3
      have f1 : b1 ≠ bn := fun e => n1 (e ▸ own_bn)
      have f2 : b2 ≠ bn := fun e => n2 (e ▸ own_bn)
      have f3 : b3 ≠ bn := fun e => n3 (e ▸ own_bn)
      have f4 := A1.ne_p.1
      ((try simp -implicitDefEqProofs only [later, laterE, laterD, laterR]); (repeat (first | simp -implicitDefEqProofs only [go_sem, ↓reduceIte, Nat.reduceEqDiff, Nat.reduceAdd, Nat.reduceLeDiff, Nat.reduceLT, Nat.reduceMul, reduceCtorEq, Int.reduceEq, Int.reduceLT, Int.reduceLE, Int.reduceNeg, Int.reduceToNat, Int.reduceMul, Int.reduceAdd, Int.reduceSub, k1, k2, k3, hd, hbn, hdel, hmu] | simp (disch := (first | omega | (simp only [go_sem]; done) | (simp only [lens]; omega))) only [cds, k1, k2, k3, hd, hbn, hdel, hmu])))
      exact ⟨_, Sub.refl, A3, Step.refl.put (.inl own_bn)⟩
    · exact ⟨_, rfl, hq _ A' (S0.trans S')⟩
  cases c0 : D.dead
  case true =>
    have := fin (by rw [c0]; rfl)
    rw [c0] at hd
    ((try simp -implicitDefEqProofs only [later, laterE, laterD, laterR]); (repeat (first | simp -implicitDefEqProofs only [go_sem, ↓reduceIte, Nat.reduceEqDiff, Nat.reduceAdd, Nat.reduceLeDiff, Nat.reduceLT, Nat.reduceMul, reduceCtorEq, Int.reduceEq, Int.reduceLT, Int.reduceLE, Int.reduceNeg, Int.reduceToNat, Int.reduceMul, Int.reduceAdd, Int.reduceSub, hd, hbn, hlook, e1, e2, e3] | simp (disch := (first | omega | (simp only [go_sem]; done) | (simp only [lens]; omega))) only [cds, hd, hbn, hlook, e1, e2, e3])))
    refine AC.mono _ _ _ _ _ (fun v h2 ⟨e, hv, q⟩ => ?_) this
    subst hv
    ((try simp -implicitDefEqProofs only [later, laterE, laterD, laterR]); (repeat (first | simp -implicitDefEqProofs only [go_sem, ↓reduceIte, Nat.reduceEqDiff, Nat.reduceAdd, Nat.reduceLeDiff, Nat.reduceLT, Nat.reduceMul, reduceCtorEq, Int.reduceEq, Int.reduceLT, Int.reduceLE, Int.reduceNeg, Int.reduceToNat, Int.reduceMul, Int.reduceAdd, Int.reduceSub] | simp (disch := (first | omega | (simp only [go_sem]; done) | (simp only [lens]; omega))) only [cds])))
    exact ⟨_, Sub.refl, q⟩
  rw [c0] at hd
  cases c2 : getL D.now frm with
  | none =>
    rw [A0.getNone c2] at hlook
    simp only [Option.getD_none] at hlook
    have := fin (by simp [c2])
    ((try simp -implicitDefEqProofs only [later, laterE, laterD, laterR]); (repeat (first | simp -implicitDefEqProofs only [go_sem, ↓reduceIte, Nat.reduceEqDiff, Nat.reduceAdd, Nat.reduceLeDiff, Nat.reduceLT, Nat.reduceMul, reduceCtorEq, Int.reduceEq, Int.reduceLT, Int.reduceLE, Int.reduceNeg, Int.reduceToNat, Int.reduceMul, Int.reduceAdd, Int.reduceSub, hd, hbn, hlook, e1, e2, e3] | simp (disch := (first | omega | (simp only [go_sem]; done) | (simp only [lens]; omega))) only [cds, hd, hbn, hlook, e1, e2, e3])))
    refine AC.mono _ _ _ _ _ (fun v h2 ⟨e, hv, q⟩ => ?_) this
    subst hv
    ((try simp -implicitDefEqProofs only [later, laterE, laterD, laterR]); (repeat (first | simp -implicitDefEqProofs only [go_sem, ↓reduceIte, Nat.reduceEqDiff, Nat.reduceAdd, Nat.reduceLeDiff, Nat.reduceLT, Nat.reduceMul, reduceCtorEq, Int.reduceEq, Int.reduceLT, Int.reduceLE, Int.reduceNeg, Int.reduceToNat, Int.reduceMul, Int.reduceAdd, Int.reduceSub] | simp (disch := (first | omega | (simp only [go_sem]; done) | (simp only [lens]; omega))) only [cds])))
    exact ⟨_, Sub.refl, q⟩
  | some i =>
    obtain ⟨x, y, g1, g2, g3, g4, g5⟩ := A0.get c2
    rw [g5] at hlook
    simp only [Option.getD_some] at hlook
    ((try simp -implicitDefEqProofs only [later, laterE, laterD, laterR]); (repeat (first | simp -implicitDefEqProofs only [go_sem, ↓reduceIte, Nat.reduceEqDiff, Nat.reduceAdd, Nat.reduceLeDiff, Nat.reduceLT, Nat.reduceMul, reduceCtorEq, Int.reduceEq, Int.reduceLT, Int.reduceLE, Int.reduceNeg, Int.reduceToNat, Int.reduceMul, Int.reduceAdd, Int.reduceSub, hd, hbn, hlook, e1, e2, e3] | simp (disch := (first | omega | (simp only [go_sem]; done) | (simp only [lens]; omega))) only [cds, hd, hbn, hlook, e1, e2, e3])))
    refine name_ac to ?_
    cases c3 : nameOk to
    · unfold Dk.rename at hq
      rw [if_pos (by rw [c0, c2, c3]; rfl)] at hq
      ((try simp -implicitDefEqProofs only [later, laterE, laterD, laterR]); (repeat (first | simp -implicitDefEqProofs only [go_sem, ↓reduceIte, Nat.reduceEqDiff, Nat.reduceAdd, Nat.reduceLeDiff, Nat.reduceLT, Nat.reduceMul, reduceCtorEq, Int.reduceEq, Int.reduceLT, Int.reduceLE, Int.reduceNeg, Int.reduceToNat, Int.reduceMul, Int.reduceAdd, Int.reduceSub, hd, hbn, hlook, e1, e2, e3] | simp (disch := (first | omega | (simp only [go_sem]; done) | (simp only [lens]; omega))) only [cds, hd, hbn, hlook, e1, e2, e3])))
      exact ⟨_, Sub.refl, hq _ A0 S0⟩
    · have := fin (by rw [c3]; simp)
      ((try simp -implicitDefEqProofs only [later, laterE, laterD, laterR]); (repeat (first | simp -implicitDefEqProofs only [go_sem, ↓reduceIte, Nat.reduceEqDiff, Nat.reduceAdd, Nat.reduceLeDiff, Nat.reduceLT, Nat.reduceMul, reduceCtorEq, Int.reduceEq, Int.reduceLT, Int.reduceLE, Int.reduceNeg, Int.reduceToNat, Int.reduceMul, Int.reduceAdd, Int.reduceSub, hd, hbn, hlook, e1, e2, e3] | simp (disch := (first | omega | (simp only [go_sem]; done) | (simp only [lens]; omega))) only [cds, hd, hbn, hlook, e1, e2, e3])))
      refine AC.mono _ _ _ _ _ (fun v h2 ⟨e, hv, q⟩ => ?_) this
      subst hv
      ((try simp -implicitDefEqProofs only [later, laterE, laterD, laterR]); (repeat (first | simp -implicitDefEqProofs only [go_sem, ↓reduceIte, Nat.reduceEqDiff, Nat.reduceAdd, Nat.reduceLeDiff, Nat.reduceLT, Nat.reduceMul, reduceCtorEq, Int.reduceEq, Int.reduceLT, Int.reduceLE, Int.reduceNeg, Int.reduceToNat, Int.reduceMul, Int.reduceAdd, Int.reduceSub] | simp (disch := (first | omega | (simp only [go_sem]; done) | (simp only [lens]; omega))) only [cds])))
      exact ⟨_, Sub.refl, q⟩
theorem read_ac (A : DiskAt h p bn bs fs D) (name : Txt) (at' n : Int) (hq : Q (.tup [.str (D.read name at' n).1, .int .i64 (D.read name at' n).2]) h) :
    AC pg (.fn 25) [.ptr p 0, .str name, .int .i64 at', .int .i64 n] h Q := by
  refine AC.fn' (g := g25) rfl (by simp only [List.length_cons, List.length_nil, g25]; decide) ?_; simp only [g25]
  have hd := A.head
  unfold Dk.read at hq
  cases c0 : D.dead
  case true =>
    rw [c0] at hd hq
    rw [if_pos rfl] at hq
    ((try simp -implicitDefEqProofs only [later, laterE, laterD, laterR]); (repeat (first | simp -implicitDefEqProofs only [go_sem, ↓reduceIte, Nat.reduceEqDiff, Nat.reduceAdd, Nat.reduceLeDiff, Nat.reduceLT, Nat.reduceMul, reduceCtorEq, Int.reduceEq, Int.reduceLT, Int.reduceLE, Int.reduceNeg, Int.reduceToNat, Int.reduceMul, Int.reduceAdd, Int.reduceSub, hd] | simp (disch := (first | omega | (simp only [go_sem]; done) | (simp only [lens]; omega))) only [cds, hd])))
    exact ⟨_, Sub.refl, hq⟩
  rw [c0] at hd
  rw [if_neg (by rw [c0]; decide)] at hq
  obtain ⟨es, ck, hbn, R⟩ := A.now
  have hlook := R.look (k := name) (z := .nilptr)
  cases c2 : getL D.now name with
  | none =>
    rw [A.getNone c2] at hlook
    simp only [Option.getD_none] at hlook
    rw [c2] at hq
    ((try simp -implicitDefEqProofs only [later, laterE, laterD, laterR]); (repeat (first | simp -implicitDefEqProofs only [go_sem, ↓reduceIte, Nat.reduceEqDiff, Nat.reduceAdd, Nat.reduceLeDiff, Nat.reduceLT, Nat.reduceMul, reduceCtorEq, Int.reduceEq, Int.reduceLT, Int.reduceLE, Int.reduceNeg, Int.reduceToNat, Int.reduceMul, Int.reduceAdd, Int.reduceSub, hd, hbn, hlook] | simp (disch := (first | omega | (simp only [go_sem]; done) | (simp only [lens]; omega))) only [cds, hd, hbn, hlook])))
    exact ⟨_, Sub.refl, hq⟩
  | some i =>
    obtain ⟨x, y, g1, g2, g3, g4, g5⟩ := A.get c2
    rw [g5] at hlook
    simp only [Option.getD_some] at hlook
    rw [c2] at hq
    simp only [body_eq g2] at hq
    by_cases c1 : at' < 0
    · rw [decide_eq_true c1, Bool.true_or, if_pos rfl] at hq
      ((try simp -implicitDefEqProofs only [later, laterE, laterD, laterR]); (repeat (first | simp -implicitDefEqProofs only [go_sem, ↓reduceIte, Nat.reduceEqDiff, Nat.reduceAdd, Nat.reduceLeDiff, Nat.reduceLT, Nat.reduceMul, reduceCtorEq, Int.reduceEq, Int.reduceLT, Int.reduceLE, Int.reduceNeg, Int.reduceToNat, Int.reduceMul, Int.reduceAdd, Int.reduceSub, hd, hbn, hlook, g3] | simp (disch := (first | omega | (simp only [go_sem]; done) | (simp only [lens]; omega))) only [cds, hd, hbn, hlook, g3])))
      exact ⟨_, Sub.refl, hq⟩
    by_cases c3 : n < 0
    · rw [decide_eq_true c3, Bool.or_true, if_pos rfl] at hq
      ((try simp -implicitDefEqProofs only [later, laterE, laterD, laterR]); (repeat (first | simp -implicitDefEqProofs only [go_sem, ↓reduceIte, Nat.reduceEqDiff, Nat.reduceAdd, Nat.reduceLeDiff, Nat.reduceLT, Nat.reduceMul, reduceCtorEq, Int.reduceEq, Int.reduceLT, Int.reduceLE, Int.reduceNeg, Int.reduceToNat, Int.reduceMul, Int.reduceAdd, Int.reduceSub, hd, hbn, hlook, g3] | simp (disch := (first | omega | (simp only [go_sem]; done) | (simp only [lens]; omega))) only [cds, hd, hbn, hlook, g3])))
      exact ⟨_, Sub.refl, hq⟩
    rw [decide_eq_false c1, decide_eq_false c3, Bool.false_or, if_neg (by decide)] at hq
    have ed : y.1.drop (min at' (y.1.length : Int)).toNat = y.1.drop at'.toNat := by
      by_cases e : at' ≤ y.1.length
      · rw [Int.min_eq_left e]
      · rw [Int.min_eq_right (by omega), List.drop_of_length_le (by omega), List.drop_of_length_le (by omega)]
    ((try simp -implicitDefEqProofs only [later, laterE, laterD, laterR]); (repeat (first | simp -implicitDefEqProofs only [go_sem, ↓reduceIte, Nat.reduceEqDiff, Nat.reduceAdd, Nat.reduceLeDiff, Nat.reduceLT, Nat.reduceMul, reduceCtorEq, Int.reduceEq, Int.reduceLT, Int.reduceLE, Int.reduceNeg, Int.reduceToNat, Int.reduceMul, Int.reduceAdd, Int.reduceSub, hd, hbn, hlook, g3, ed] | simp (disch := (first | omega | (simp only [go_sem]; done) | (simp only [lens]; omega))) only [cds, hd, hbn, hlook, g3, ed])))
    generalize y.1.drop at'.toNat = l at *
    have et : l.take (min n (l.length : Int)).toNat = l.take n.toNat := by
      by_cases e : n ≤ l.length
      · rw [Int.min_eq_left e]
      · rw [Int.min_eq_right (by omega), List.take_of_length_le (by omega), List.take_of_length_le (by omega)]
    rw [et]
    exact ⟨_, Sub.refl, hq⟩
theorem size_ac (A : DiskAt h p bn bs fs D) (name : Txt) (hq : Q (.tup [.int .i64 (D.size name).1, .int .i64 (D.size name).2]) h) :
    AC pg (.fn 13) [.ptr p 0, .str name] h Q := by
  refine AC.fn' (g := g13) rfl (by simp only [List.length_cons, List.length_nil, g13]; decide) ?_; simp only [g13]
  have hd := A.head
  unfold Dk.size at hq
  cases c0 : D.dead
  case true =>
    rw [c0] at hd hq
    rw [if_pos rfl] at hq
    ((try simp -implicitDefEqProofs only [later, laterE, laterD, laterR]); (repeat (first | simp -implicitDefEqProofs only [go_sem, ↓reduceIte, Nat.reduceEqDiff, Nat.reduceAdd, Nat.reduceLeDiff, Nat.reduceLT, Nat.reduceMul, reduceCtorEq, Int.reduceEq, Int.reduceLT, Int.reduceLE, Int.reduceNeg, Int.reduceToNat, Int.reduceMul, Int.reduceAdd, Int.reduceSub, hd] | simp (disch := (first | omega | (simp only [go_sem]; done) | (simp only [lens]; omega))) only [cds, hd])))
    exact ⟨_, Sub.refl, hq⟩
  rw [c0] at hd
  rw [if_neg (by rw [c0]; decide)] at hq
  obtain ⟨es, ck, hbn, R⟩ := A.now
  have hlook := R.look (k := name) (z := .nilptr)
  cases c2 : getL D.now name with
  | none =>
    rw [A.getNone c2] at hlook
    simp only [Option.getD_none] at hlook
    rw [c2] at hq
    ((try simp -implicitDefEqProofs only [later, laterE, laterD, laterR]); (repeat (first | simp -implicitDefEqProofs only [go_sem, ↓reduceIte, Nat.reduceEqDiff, Nat.reduceAdd, Nat.reduceLeDiff, Nat.reduceLT, Nat.reduceMul, reduceCtorEq, Int.reduceEq, Int.reduceLT, Int.reduceLE, Int.reduceNeg, Int.reduceToNat, Int.reduceMul, Int.reduceAdd, Int.reduceSub, hd, hbn, hlook] | simp (disch := (first | omega | (simp only [go_sem]; done) | (simp only [lens]; omega))) only [cds, hd, hbn, hlook])))
    exact ⟨_, Sub.refl, hq⟩
  | some i =>
    obtain ⟨x, y, g1, g2, g3, g4, g5⟩ := A.get c2
    rw [g5] at hlook
    simp only [Option.getD_some] at hlook
    rw [c2] at hq
    simp only [body_eq g2] at hq
    ((try simp -implicitDefEqProofs only [later, laterE, laterD, laterR]); (repeat (first | simp -implicitDefEqProofs only [go_sem, ↓reduceIte, Nat.reduceEqDiff, Nat.reduceAdd, Nat.reduceLeDiff, Nat.reduceLT, Nat.reduceMul, reduceCtorEq, Int.reduceEq, Int.reduceLT, Int.reduceLE, Int.reduceNeg, Int.reduceToNat, Int.reduceMul, Int.reduceAdd, Int.reduceSub, hd, hbn, hlook, g3] | simp (disch := (first | omega | (simp only [go_sem]; done) | (simp only [lens]; omega))) only [cds, hd, hbn, hlook, g3])))
    exact ⟨_, Sub.refl, hq⟩
end Go.Proofs.YtijipnkdabdioabGreatDoor
