/- The disk, 5: appending. -/
import Derived.Test.YtijipnkdabdioabGreatDoorD4
set_option linter.unusedSimpArgs false
set_option linter.unusedVariables false
namespace Go.Proofs.YtijipnkdabdioabGreatDoor
open Mir
/-- May so many bytes not be appended to that file, for its size? -/
def Dk.over (D : Dk) (name t : Txt) : Bool := (match getL D.now name with | some i => decide (1048576 < (D.body i).1.length + t.length) | none => false) || decide (1048576 < t.length)
def Dk.grow (D : Dk) (name t : Txt) : Dk := match getL D.now name with
  | some i => { D with bodies := D.bodies.set i ((D.body i).1 ++ t, (D.body i).2) }
  | none => { D with bodies := D.bodies ++ [(t, [])], now := putL D.now name D.bodies.length }
def Dk.append (D : Dk) (name t : Txt) : Dk × Nat :=
  if D.dead = true then (D, 8) else
  if nameOk name = false then (D, 1) else
  if getL D.now name = none ∧ 100 ≤ D.now.length then (D, 7) else
  if (D.quota : Int) < D.used + t.length then (D, 7) else
  if D.over name t = true then (D, 12) else
  (D.deed.grow name t, if D.deed.dead = true then 8 else 0)
variable {h : H} {p bn bs : Nat} {fs : List Nat} {D : Dk} {Q : V → H → Prop}
theorem deed_now : D.deed.now = D.now := by unfold Dk.deed; split <;> (try split) <;> rfl
theorem deed_safe : D.deed.safe = D.safe := by unfold Dk.deed; split <;> (try split) <;> rfl
theorem deed_bodies : D.deed.bodies = D.bodies := by unfold Dk.deed; split <;> (try split) <;> rfl
theorem deed_body {i : Nat} : D.deed.body i = D.body i := by unfold Dk.body; rw [deed_bodies]
theorem ents_put {name : Txt} {i f : Nat} (e : fs[i]? = some f) {l : List (Txt × Nat)} : putL (ents fs l) name (.ptr f 0) = ents fs (putL l name i) := by
  unfold ents; rw [← fptr_at e, putL_map]
theorem put_lt {l : List (Txt × Nat)} {name : Txt} {i n : Nat} (hl : ∀ e ∈ l, e.2 < n) (hi : i < n) : ∀ e ∈ putL l name i, e.2 < n := by
  intro e he
  unfold putL at he
  split at he
  · obtain ⟨q, hq, rfl⟩ := List.mem_map.1 he
    split
    · exact hi
    · exact hl q hq
  · rcases List.mem_append.1 he with he | he
    · exact hl e he
    · simp at he; subst he; exact hi
theorem append_ac (A : DiskAt h p bn bs fs D) (name t : Txt) (hl : D.now.length < 1099511627776) (hq : ∀ h' fs', DiskAt h' p bn bs fs' (D.append name t).1 → Step (own p bn bs fs) (own p bn bs fs') h h' → Q (.int .i64 (D.append name t).2) h') : AC pg (.fn 15) [.ptr p 0, .str name, .str t] h Q := by
  refine AC.fn' (g := g15) rfl (by simp only [List.length_cons, List.length_nil, g15]; decide) ?_; simp only [g15]
  have hd := A.head
  unfold Dk.append at hq
  cases c0 : D.dead
  case true =>
    rw [c0] at hd hq
    rw [if_pos rfl] at hq
    ((try simp -implicitDefEqProofs only [later, laterE, laterD, laterR]); (repeat (first | simp -implicitDefEqProofs only [go_sem, ↓reduceIte, Nat.reduceEqDiff, Nat.reduceAdd, Nat.reduceLeDiff, Nat.reduceLT, Nat.reduceMul, reduceCtorEq, Int.reduceEq, Int.reduceLT, Int.reduceLE, Int.reduceNeg, Int.reduceToNat, Int.reduceMul, Int.reduceAdd, Int.reduceSub, hd] | simp (disch := (first | omega | (simp only [go_sem]; done) | (simp only [lens]; omega))) only [cds, hd])))
    exact ⟨_, Sub.refl, hq _ _ A Step.refl⟩
  rw [c0] at hd
  rw [if_neg (by rw [c0]; decide)] at hq
  obtain ⟨es, ck, hbn, R⟩ := A.now
  have hes : es.length = D.now.length := by rw [R.len]; simp [ents]
  have hlook := R.look (k := name) (z := .nilptr)
  cases c1 : nameOk name
  case false =>
    rw [if_pos c1] at hq
    ((try simp -implicitDefEqProofs only [later, laterE, laterD, laterR]); (repeat (first | simp -implicitDefEqProofs only [go_sem, ↓reduceIte, Nat.reduceEqDiff, Nat.reduceAdd, Nat.reduceLeDiff, Nat.reduceLT, Nat.reduceMul, reduceCtorEq, Int.reduceEq, Int.reduceLT, Int.reduceLE, Int.reduceNeg, Int.reduceToNat, Int.reduceMul, Int.reduceAdd, Int.reduceSub, hd, hbn, hlook] | simp (disch := (first | omega | (simp only [go_sem]; done) | (simp only [lens]; omega))) only [cds, hd, hbn, hlook])))
    refine name_ac name ?_
    rw [c1]
    ((try simp -implicitDefEqProofs only [later, laterE, laterD, laterR]); (repeat (first | simp -implicitDefEqProofs only [go_sem, ↓reduceIte, Nat.reduceEqDiff, Nat.reduceAdd, Nat.reduceLeDiff, Nat.reduceLT, Nat.reduceMul, reduceCtorEq, Int.reduceEq, Int.reduceLT, Int.reduceLE, Int.reduceNeg, Int.reduceToNat, Int.reduceMul, Int.reduceAdd, Int.reduceSub] | simp (disch := (first | omega | (simp only [go_sem]; done) | (simp only [lens]; omega))) only [cds])))
    exact ⟨_, Sub.refl, hq _ _ A Step.refl⟩
  rw [if_neg (by rw [c1]; decide)] at hq
  have hu := used_le A
  have hroom := A.room
  cases c2 : getL D.now name with
  | none =>
    rw [A.getNone c2] at hlook
    simp only [Option.getD_none] at hlook
    ((try simp -implicitDefEqProofs only [later, laterE, laterD, laterR]); (repeat (first | simp -implicitDefEqProofs only [go_sem, ↓reduceIte, Nat.reduceEqDiff, Nat.reduceAdd, Nat.reduceLeDiff, Nat.reduceLT, Nat.reduceMul, reduceCtorEq, Int.reduceEq, Int.reduceLT, Int.reduceLE, Int.reduceNeg, Int.reduceToNat, Int.reduceMul, Int.reduceAdd, Int.reduceSub, hd, hbn, hlook] | simp (disch := (first | omega | (simp only [go_sem]; done) | (simp only [lens]; omega))) only [cds, hd, hbn, hlook])))
    refine name_ac name ?_
    rw [c1]
    by_cases c3 : 100 ≤ D.now.length
    · rw [if_pos ⟨c2, c3⟩] at hq
      ((try simp -implicitDefEqProofs only [later, laterE, laterD, laterR]); (repeat (first | simp -implicitDefEqProofs only [go_sem, ↓reduceIte, Nat.reduceEqDiff, Nat.reduceAdd, Nat.reduceLeDiff, Nat.reduceLT, Nat.reduceMul, reduceCtorEq, Int.reduceEq, Int.reduceLT, Int.reduceLE, Int.reduceNeg, Int.reduceToNat, Int.reduceMul, Int.reduceAdd, Int.reduceSub, hd, hbn, hlook] | simp (disch := (first | omega | (simp only [go_sem]; done) | (simp only [lens]; omega))) only [cds, hd, hbn, hlook])))
      exact ⟨_, Sub.refl, hq _ _ A Step.refl⟩
    rw [if_neg (fun x => c3 x.2)] at hq
    ((try simp -implicitDefEqProofs only [later, laterE, laterD, laterR]); (repeat (first | simp -implicitDefEqProofs only [go_sem, ↓reduceIte, Nat.reduceEqDiff, Nat.reduceAdd, Nat.reduceLeDiff, Nat.reduceLT, Nat.reduceMul, reduceCtorEq, Int.reduceEq, Int.reduceLT, Int.reduceLE, Int.reduceNeg, Int.reduceToNat, Int.reduceMul, Int.reduceAdd, Int.reduceSub, hd, hbn, hlook] | simp (disch := (first | omega | (simp only [go_sem]; done) | (simp only [lens]; omega))) only [cds, hd, hbn, hlook])))
    refine used_ac A hl ?_
    by_cases c4 : (D.quota : Int) < D.used + t.length
    · rw [if_pos c4] at hq
      ((try simp -implicitDefEqProofs only [later, laterE, laterD, laterR]); (repeat (first | simp -implicitDefEqProofs only [go_sem, ↓reduceIte, Nat.reduceEqDiff, Nat.reduceAdd, Nat.reduceLeDiff, Nat.reduceLT, Nat.reduceMul, reduceCtorEq, Int.reduceEq, Int.reduceLT, Int.reduceLE, Int.reduceNeg, Int.reduceToNat, Int.reduceMul, Int.reduceAdd, Int.reduceSub, hd, hbn, hlook] | simp (disch := (first | omega | (simp only [go_sem]; done) | (simp only [lens]; omega))) only [cds, hd, hbn, hlook])))
      exact ⟨_, Sub.refl, hq _ _ A Step.refl⟩
    rw [if_neg c4] at hq
    ((try simp -implicitDefEqProofs only [later, laterE, laterD, laterR]); (repeat (first | simp -implicitDefEqProofs only [go_sem, ↓reduceIte, Nat.reduceEqDiff, Nat.reduceAdd, Nat.reduceLeDiff, Nat.reduceLT, Nat.reduceMul, reduceCtorEq, Int.reduceEq, Int.reduceLT, Int.reduceLE, Int.reduceNeg, Int.reduceToNat, Int.reduceMul, Int.reduceAdd, Int.reduceSub, hd, hbn, hlook] | simp (disch := (first | omega | (simp only [go_sem]; done) | (simp only [lens]; omega))) only [cds, hd, hbn, hlook])))
    by_cases c5 : 1048576 < t.length
    · rw [if_pos (by simp [Dk.over, c5])] at hq
      ((try simp -implicitDefEqProofs only [later, laterE, laterD, laterR]); (repeat (first | simp -implicitDefEqProofs only [go_sem, ↓reduceIte, Nat.reduceEqDiff, Nat.reduceAdd, Nat.reduceLeDiff, Nat.reduceLT, Nat.reduceMul, reduceCtorEq, Int.reduceEq, Int.reduceLT, Int.reduceLE, Int.reduceNeg, Int.reduceToNat, Int.reduceMul, Int.reduceAdd, Int.reduceSub, hd, hbn, hlook] | simp (disch := (first | omega | (simp only [go_sem]; done) | (simp only [lens]; omega))) only [cds, hd, hbn, hlook])))
      exact ⟨_, Sub.refl, hq _ _ A Step.refl⟩
    have nover : ¬ D.over name t = true := by simp [Dk.over, c2]; omega
    rw [if_neg nover] at hq
    ((try simp -implicitDefEqProofs only [later, laterE, laterD, laterR]); (repeat (first | simp -implicitDefEqProofs only [go_sem, ↓reduceIte, Nat.reduceEqDiff, Nat.reduceAdd, Nat.reduceLeDiff, Nat.reduceLT, Nat.reduceMul, reduceCtorEq, Int.reduceEq, Int.reduceLT, Int.reduceLE, Int.reduceNeg, Int.reduceToNat, Int.reduceMul, Int.reduceAdd, Int.reduceSub, hd, hbn, hlook] | simp (disch := (first | omega | (simp only [go_sem]; done) | (simp only [lens]; omega))) only [cds, hd, hbn, hlook])))
    refine deed_ac A fun h1 A1 S1 => ?_
    ((try simp -implicitDefEqProofs only [later, laterE, laterD, laterR]); (repeat (first | simp -implicitDefEqProofs only [go_sem, ↓reduceIte, Nat.reduceEqDiff, Nat.reduceAdd, Nat.reduceLeDiff, Nat.reduceLT, Nat.reduceMul, reduceCtorEq, Int.reduceEq, Int.reduceLT, Int.reduceLE, Int.reduceNeg, Int.reduceToNat, Int.reduceMul, Int.reduceAdd, Int.reduceSub] | simp (disch := (first | omega | (simp only [go_sem]; done) | (simp only [lens]; omega))) only [cds])))
    intro b hb
    have A2 := A1.addFile (a := []) (c := []) hb (by simp)
    obtain ⟨es2, ck2, hbn2, R2⟩ := A2.now
    obtain ⟨es3, ck3, hmu, R3⟩ := R2.put (k := name) (v := .ptr b 0) (b := bn) (h := hadd h1 b (.cells [.str [], .str []] false))
    have hat : (fs ++ [b])[D.deed.bodies.length]? = some b := by rw [← A1.len]; simp
    rw [show ({ D.deed with bodies := D.deed.bodies ++ [([], [])] } : Dk).now = D.deed.now from rfl, ents_put hat] at R3
    have A3 := A2.setNow R3 (put_lt A2.nowIn (by simp))
    have nb : b ≠ bn := fun e => by obtain ⟨_, _, x, _⟩ := A1.now; rw [← e, hb] at x; cases x
    have A4 := A3.setFile (i := D.deed.bodies.length) (f := b) (a := t) (c := []) hat ⟨by omega, by simp⟩
    have hd1 := A1.head
    have hp := ne_fresh hd1 hb
    have eD : D.deed.grow name t = { D.deed with bodies := (D.deed.bodies ++ [([], [])]).set D.deed.bodies.length (t, []), now := putL D.deed.now name D.deed.bodies.length } := by
      unfold Dk.grow
      rw [deed_now, c2]
      simp
    have S4 : Step (own p bn bs fs) (own p bn bs (fs ++ [b])) h1 (hadd (hadd (hadd h1 b (AObj.cells [V.str [], V.str []] false)) bn (AObj.map es3 ck3)) b (AObj.cells [V.str t, V.str []] false)) := by
      refine Step.put (Step.put (Step.put ⟨fun _ _ _ e => e, ?_⟩ (.inr hb)) (.inl own_bn)) (.inr hb)
      rintro c (e | e | e | e)
      · exact .inl (.inl e)
      · exact .inl (.inr (.inl e))
      · exact .inl (.inr (.inr (.inl e)))
      · rcases List.mem_append.1 e with e | e
        · exact .inl (own_f e)
        · simp at e; subst e; exact .inr hb
    have hq' := hq _ _ (by rw [eD]; exact A4) (S1.trans S4)
    cases c6 : D.deed.dead
    · rw [c6] at hd1 hq'
      ((try simp -implicitDefEqProofs only [later, laterE, laterD, laterR]); (repeat (first | simp -implicitDefEqProofs only [go_sem, ↓reduceIte, Nat.reduceEqDiff, Nat.reduceAdd, Nat.reduceLeDiff, Nat.reduceLT, Nat.reduceMul, reduceCtorEq, Int.reduceEq, Int.reduceLT, Int.reduceLE, Int.reduceNeg, Int.reduceToNat, Int.reduceMul, Int.reduceAdd, Int.reduceSub, hd1, hbn2, hmu, List.nil_append] | simp (disch := (first | omega | (simp only [go_sem]; done) | (simp only [lens]; omega))) only [cds, hd1, hbn2, hmu, List.nil_append])))
      exact ⟨_, Sub.refl, hq'⟩
    · rw [c6] at hd1 hq'
      ((try simp -implicitDefEqProofs only [later, laterE, laterD, laterR]); (repeat (first | simp -implicitDefEqProofs only [go_sem, ↓reduceIte, Nat.reduceEqDiff, Nat.reduceAdd, Nat.reduceLeDiff, Nat.reduceLT, Nat.reduceMul, reduceCtorEq, Int.reduceEq, Int.reduceLT, Int.reduceLE, Int.reduceNeg, Int.reduceToNat, Int.reduceMul, Int.reduceAdd, Int.reduceSub, hd1, hbn2, hmu, List.nil_append] | simp (disch := (first | omega | (simp only [go_sem]; done) | (simp only [lens]; omega))) only [cds, hd1, hbn2, hmu, List.nil_append])))
      exact ⟨_, Sub.refl, hq'⟩
  | some i =>
    obtain ⟨f, b, g1, g2, g3, g4, g5⟩ := A.get c2
    rw [g5] at hlook
    simp only [Option.getD_some] at hlook
    ((try simp -implicitDefEqProofs only [later, laterE, laterD, laterR]); (repeat (first | simp -implicitDefEqProofs only [go_sem, ↓reduceIte, Nat.reduceEqDiff, Nat.reduceAdd, Nat.reduceLeDiff, Nat.reduceLT, Nat.reduceMul, reduceCtorEq, Int.reduceEq, Int.reduceLT, Int.reduceLE, Int.reduceNeg, Int.reduceToNat, Int.reduceMul, Int.reduceAdd, Int.reduceSub, hd, hbn, hlook] | simp (disch := (first | omega | (simp only [go_sem]; done) | (simp only [lens]; omega))) only [cds, hd, hbn, hlook])))
    refine name_ac name ?_
    rw [c1]
    rw [if_neg (fun x => by rw [c2] at x; cases x.1)] at hq
    ((try simp -implicitDefEqProofs only [later, laterE, laterD, laterR]); (repeat (first | simp -implicitDefEqProofs only [go_sem, ↓reduceIte, Nat.reduceEqDiff, Nat.reduceAdd, Nat.reduceLeDiff, Nat.reduceLT, Nat.reduceMul, reduceCtorEq, Int.reduceEq, Int.reduceLT, Int.reduceLE, Int.reduceNeg, Int.reduceToNat, Int.reduceMul, Int.reduceAdd, Int.reduceSub, hd, hbn, hlook] | simp (disch := (first | omega | (simp only [go_sem]; done) | (simp only [lens]; omega))) only [cds, hd, hbn, hlook])))
    refine used_ac A hl ?_
    by_cases c4 : (D.quota : Int) < D.used + t.length
    · rw [if_pos c4] at hq
      ((try simp -implicitDefEqProofs only [later, laterE, laterD, laterR]); (repeat (first | simp -implicitDefEqProofs only [go_sem, ↓reduceIte, Nat.reduceEqDiff, Nat.reduceAdd, Nat.reduceLeDiff, Nat.reduceLT, Nat.reduceMul, reduceCtorEq, Int.reduceEq, Int.reduceLT, Int.reduceLE, Int.reduceNeg, Int.reduceToNat, Int.reduceMul, Int.reduceAdd, Int.reduceSub, hd, hbn, hlook] | simp (disch := (first | omega | (simp only [go_sem]; done) | (simp only [lens]; omega))) only [cds, hd, hbn, hlook])))
      exact ⟨_, Sub.refl, hq _ _ A Step.refl⟩
    rw [if_neg c4] at hq
    have hbd : D.body i = b := by simp [Dk.body, g2]
    by_cases c6 : 1048576 < b.1.length + t.length
    · rw [if_pos (by simp [Dk.over, c2, hbd, c6])] at hq
      ((try simp -implicitDefEqProofs only [later, laterE, laterD, laterR]); (repeat (first | simp -implicitDefEqProofs only [go_sem, ↓reduceIte, Nat.reduceEqDiff, Nat.reduceAdd, Nat.reduceLeDiff, Nat.reduceLT, Nat.reduceMul, reduceCtorEq, Int.reduceEq, Int.reduceLT, Int.reduceLE, Int.reduceNeg, Int.reduceToNat, Int.reduceMul, Int.reduceAdd, Int.reduceSub, hd, hbn, hlook, g3] | simp (disch := (first | omega | (simp only [go_sem]; done) | (simp only [lens]; omega))) only [cds, hd, hbn, hlook, g3])))
      exact ⟨_, Sub.refl, hq _ _ A Step.refl⟩
    have nover : ¬ D.over name t = true := by simp [Dk.over, c2, hbd]; omega
    rw [if_neg nover] at hq
    ((try simp -implicitDefEqProofs only [later, laterE, laterD, laterR]); (repeat (first | simp -implicitDefEqProofs only [go_sem, ↓reduceIte, Nat.reduceEqDiff, Nat.reduceAdd, Nat.reduceLeDiff, Nat.reduceLT, Nat.reduceMul, reduceCtorEq, Int.reduceEq, Int.reduceLT, Int.reduceLE, Int.reduceNeg, Int.reduceToNat, Int.reduceMul, Int.reduceAdd, Int.reduceSub, hd, hbn, hlook, g3] | simp (disch := (first | omega | (simp only [go_sem]; done) | (simp only [lens]; omega))) only [cds, hd, hbn, hlook, g3])))
    refine deed_ac A fun h1 A1 S1 => ?_
    obtain ⟨f', b', g1', g2', g3', _⟩ := A1.get (k := name) (by rw [deed_now]; exact c2)
    rw [g1, Option.some.injEq] at g1'; subst g1'
    rw [deed_bodies, g2, Option.some.injEq] at g2'; subst g2'
    have A4 := A1.setFile (a := b.1 ++ t) (c := b.2) g1 ⟨by rw [List.length_append]; omega, (A1.small b (List.mem_of_getElem? (by rw [deed_bodies]; exact g2))).2⟩
    have eD : D.deed.grow name t = { D.deed with bodies := D.deed.bodies.set i (b.1 ++ t, b.2) } := by
      unfold Dk.grow
      rw [deed_now, c2]; simp only [deed_body, hbd, deed_now]
    have hq' := hq _ _ (by rw [eD]; exact A4) (S1.trans (Step.refl.put (.inl (own_f (List.mem_of_getElem? g1)))))
    cases c7 : D.deed.dead
    · rw [c7] at hq'
      ((try simp -implicitDefEqProofs only [later, laterE, laterD, laterR]); (repeat (first | simp -implicitDefEqProofs only [go_sem, ↓reduceIte, Nat.reduceEqDiff, Nat.reduceAdd, Nat.reduceLeDiff, Nat.reduceLT, Nat.reduceMul, reduceCtorEq, Int.reduceEq, Int.reduceLT, Int.reduceLE, Int.reduceNeg, Int.reduceToNat, Int.reduceMul, Int.reduceAdd, Int.reduceSub, g3'] | simp (disch := (first | omega | (simp only [go_sem]; done) | (simp only [lens]; omega))) only [cds, g3'])))
      exact ⟨_, Sub.refl, hq'⟩
    · rw [c7] at hq'
      ((try simp -implicitDefEqProofs only [later, laterE, laterD, laterR]); (repeat (first | simp -implicitDefEqProofs only [go_sem, ↓reduceIte, Nat.reduceEqDiff, Nat.reduceAdd, Nat.reduceLeDiff, Nat.reduceLT, Nat.reduceMul, reduceCtorEq, Int.reduceEq, Int.reduceLT, Int.reduceLE, Int.reduceNeg, Int.reduceToNat, Int.reduceMul, Int.reduceAdd, Int.reduceSub, g3'] | simp (disch := (first | omega | (simp only [go_sem]; done) | (simp only [lens]; omega))) only [cds, g3'])))
      exact ⟨_, Sub.refl, hq'⟩
theorem append_new {D : Dk} {name t : Txt} (h1 : D.dead = false) (h2 : nameOk name = true) (h3 : getL D.now name = none) (h4 : D.now.length < 100) (h5 : D.left = -1) (h6 : t.length ≤ 1048576) :
    D.append name t = if (D.quota : Int) < D.used + t.length then (D, 7) else ({ D with bodies := D.bodies ++ [(t, [])], now := D.now ++ [(name, D.bodies.length)] }, 0) := by
  have e : D.deed = D := by unfold Dk.deed; rw [h5]; rfl
  unfold Dk.append
  rw [if_neg (by rw [h1]; decide), if_neg (by rw [h2]; decide), if_neg (fun x => by omega), e]
  split
  · rfl
  · rw [if_neg (by simp [Dk.over, h3]; omega), if_neg (by rw [h1]; decide)]
    unfold Dk.grow
    rw [h3]
    simp only [putL_new h3]
theorem Step.sub {F : Nat → Prop} {h h' : H} (s : Step (fun _ => False) F h h') : Sub h h' := fun b o e => s.keep b o (fun x => x) e
end Go.Proofs.YtijipnkdabdioabGreatDoor
