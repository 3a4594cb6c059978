/- The disk, 6: changes. -/
import Derived.Test.YtijipnkdabdioabGreatDoorD5
set_option linter.unusedSimpArgs false
set_option linter.unusedVariables false
namespace Go.Proofs.YtijipnkdabdioabGreatDoor
open Mir
def Dk.change (D : Dk) (name : Txt) (f : Nat → Dk → Dk) : Dk × Nat :=
  if D.dead = true then (D, 8) else match getL D.now name with
    | none => (D, 5)
    | some i => if D.deed.dead = true then (D.deed, 8) else (f i D.deed, 0)
def Dk.setBody (D : Dk) (i : Nat) (b : Txt × Txt) : Dk := { D with bodies := D.bodies.set i b }
def Dk.sync (D : Dk) (name : Txt) : Dk × Nat := D.change name fun i D => D.setBody i ((D.body i).1, (D.body i).1)
/-- Is the place outside of the file? -/
def Dk.beyond (D : Dk) (name : Txt) (n : Int) : Bool := match getL D.now name with
  | none => false
  | some i => decide (n < 0) || decide (((D.body i).1.length : Int) < n)
def Dk.truncate (D : Dk) (name : Txt) (n : Int) : Dk × Nat :=
  if (!D.dead && D.beyond name n) = true then (D, 1) else D.change name fun i D => D.setBody i ((D.body i).1.take n.toNat, (D.body i).2)
def Dk.syncDir (D : Dk) : Dk × Nat := if D.dead = true then (D, 8) else if D.deed.dead = true then (D.deed, 8) else ({ D.deed with safe := D.deed.now }, 0)
def Dk.rename (D : Dk) (frm to : Txt) : Dk × Nat :=
  if (!D.dead && (getL D.now frm).isSome && !nameOk to) = true then (D, 1) else D.change frm fun i D => { D with now := putL (delL D.now frm) to i }
def Dk.remove (D : Dk) (name : Txt) : Dk × Nat := D.change name fun _ D => { D with now := delL D.now name }
variable {h : H} {p bn bs : Nat} {fs : List Nat} {D : Dk} {Q : V → H → Prop}
theorem DiskAt.lies (A : DiskAt h p bn bs fs D) {b : Nat} (o : own p bn bs fs b) : h b ≠ none := by
  rcases o with rfl | rfl | rfl | e
  · rw [A.head]; simp
  · obtain ⟨_, _, x, _⟩ := A.now; rw [x]; simp
  · obtain ⟨_, _, x, _⟩ := A.safe; rw [x]; simp
  · obtain ⟨cs, x⟩ := A.fileMem e; rw [x]; simp
theorem DiskAt.free (A : DiskAt h p bn bs fs D) {b : Nat} (hb : h b = none) : ¬ own p bn bs fs b := fun o => A.lies o hb
theorem change_ac (A : DiskAt h p bn bs fs D) (name : Txt) {g : Nat} {cap : List V} {f : Nat → Dk → Dk}
    (hdo : ∀ h1 i x b, D.dead = false → getL D.now name = some i → D.deed.dead = false → DiskAt h1 p bn bs fs D.deed → Step (own p bn bs fs) (own p bn bs fs) h h1 → fs[i]? = some x → D.deed.bodies[i]? = some b → h1 x = some (.cells [.str b.1, .str b.2] false) →
      AC pg (.fn g) (.ptr x 0 :: cap) h1 fun _ h2 => DiskAt h2 p bn bs fs (f i D.deed) ∧ Step (own p bn bs fs) (own p bn bs fs) h1 h2)
    (hq : ∀ h', DiskAt h' p bn bs fs (D.change name f).1 → Step (own p bn bs fs) (own p bn bs fs) h h' → Q (.int .i64 (D.change name f).2) h') :
    AC pg (.fn 26) [.ptr p 0, .str name, .fn g [] cap] h Q := by
  refine AC.fn' (g := g26) rfl (by simp only [List.length_cons, List.length_nil, g26]; decide) ?_; simp only [g26]
  have hd := A.head
  unfold Dk.change at hq
  cases c0 : D.dead
  case true =>
    rw [c0] at hd hq
    rw [if_pos rfl] at hq
    ((try simp -implicitDefEqProofs only [later, laterE, laterD, laterR]); (repeat (first | simp -implicitDefEqProofs only [go_sem, ↓reduceIte, Nat.reduceEqDiff, Nat.reduceAdd, Nat.reduceLeDiff, Nat.reduceLT, Nat.reduceMul, reduceCtorEq, Int.reduceEq, Int.reduceLT, Int.reduceLE, Int.reduceNeg, Int.reduceToNat, Int.reduceMul, Int.reduceAdd, Int.reduceSub, hd] | simp (disch := (first | omega | (simp only [go_sem]; done) | (simp only [lens]; omega))) only [cds, hd])))
    exact ⟨_, Sub.refl, hq _ A Step.refl⟩
  rw [c0] at hd
  rw [if_neg (by rw [c0]; decide)] at hq
  obtain ⟨es, ck, hbn, R⟩ := A.now
  have hlook := R.look (k := name) (z := .nilptr)
  cases c2 : getL D.now name with
  | none =>
    rw [A.getNone c2] at hlook
    simp only [Option.getD_none] at hlook
    rw [c2] at hq
    ((try simp -implicitDefEqProofs only [later, laterE, laterD, laterR]); (repeat (first | simp -implicitDefEqProofs only [go_sem, ↓reduceIte, Nat.reduceEqDiff, Nat.reduceAdd, Nat.reduceLeDiff, Nat.reduceLT, Nat.reduceMul, reduceCtorEq, Int.reduceEq, Int.reduceLT, Int.reduceLE, Int.reduceNeg, Int.reduceToNat, Int.reduceMul, Int.reduceAdd, Int.reduceSub, hd, hbn, hlook] | simp (disch := (first | omega | (simp only [go_sem]; done) | (simp only [lens]; omega))) only [cds, hd, hbn, hlook])))
    exact ⟨_, Sub.refl, hq _ A Step.refl⟩
  | some i =>
    obtain ⟨x, b, g1, g2, g3, g4, g5⟩ := A.get c2
    rw [g5] at hlook
    simp only [Option.getD_some] at hlook
    rw [c2] at hq
    simp only at hq
    ((try simp -implicitDefEqProofs only [later, laterE, laterD, laterR]); (repeat (first | simp -implicitDefEqProofs only [go_sem, ↓reduceIte, Nat.reduceEqDiff, Nat.reduceAdd, Nat.reduceLeDiff, Nat.reduceLT, Nat.reduceMul, reduceCtorEq, Int.reduceEq, Int.reduceLT, Int.reduceLE, Int.reduceNeg, Int.reduceToNat, Int.reduceMul, Int.reduceAdd, Int.reduceSub, hd, hbn, hlook] | simp (disch := (first | omega | (simp only [go_sem]; done) | (simp only [lens]; omega))) only [cds, hd, hbn, hlook])))
    refine deed_ac A fun h1 A1 S1 => ?_
    cases c3 : D.deed.dead
    · rw [if_neg (by rw [c3]; decide)] at hq
      ((try simp -implicitDefEqProofs only [later, laterE, laterD, laterR]); (repeat (first | simp -implicitDefEqProofs only [go_sem, ↓reduceIte, Nat.reduceEqDiff, Nat.reduceAdd, Nat.reduceLeDiff, Nat.reduceLT, Nat.reduceMul, reduceCtorEq, Int.reduceEq, Int.reduceLT, Int.reduceLE, Int.reduceNeg, Int.reduceToNat, Int.reduceMul, Int.reduceAdd, Int.reduceSub] | simp (disch := (first | omega | (simp only [go_sem]; done) | (simp only [lens]; omega))) only [cds])))
      obtain ⟨x', b', g1', g2', g3', _⟩ := A1.get (k := name) (by rw [deed_now]; exact c2)
      rw [g1, Option.some.injEq] at g1'; subst g1'
      refine AC.mono _ _ _ _ _ (fun v h2 q => ?_) (hdo h1 i x b' c0 c2 c3 A1 S1 g1 g2' g3')
      ((try simp -implicitDefEqProofs only [later, laterE, laterD, laterR]); (repeat (first | simp -implicitDefEqProofs only [go_sem, ↓reduceIte, Nat.reduceEqDiff, Nat.reduceAdd, Nat.reduceLeDiff, Nat.reduceLT, Nat.reduceMul, reduceCtorEq, Int.reduceEq, Int.reduceLT, Int.reduceLE, Int.reduceNeg, Int.reduceToNat, Int.reduceMul, Int.reduceAdd, Int.reduceSub] | simp (disch := (first | omega | (simp only [go_sem]; done) | (simp only [lens]; omega))) only [cds])))
      exact ⟨_, Sub.refl, hq _ q.1 (S1.trans q.2)⟩
    · rw [if_pos c3] at hq
      ((try simp -implicitDefEqProofs only [later, laterE, laterD, laterR]); (repeat (first | simp -implicitDefEqProofs only [go_sem, ↓reduceIte, Nat.reduceEqDiff, Nat.reduceAdd, Nat.reduceLeDiff, Nat.reduceLT, Nat.reduceMul, reduceCtorEq, Int.reduceEq, Int.reduceLT, Int.reduceLE, Int.reduceNeg, Int.reduceToNat, Int.reduceMul, Int.reduceAdd, Int.reduceSub] | simp (disch := (first | omega | (simp only [go_sem]; done) | (simp only [lens]; omega))) only [cds])))
      exact ⟨_, Sub.refl, hq _ A1 S1⟩
theorem body_eq {i : Nat} {b : Txt × Txt} (e : D.bodies[i]? = some b) : D.body i = b := by simp [Dk.body, e]
theorem sync_ac (A : DiskAt h p bn bs fs D) (name : Txt) (hq : ∀ h', DiskAt h' p bn bs fs (D.sync name).1 → Step (own p bn bs fs) (own p bn bs fs) h h' → Q (.int .i64 (D.sync name).2) h') :
    AC pg (.fn 17) [.ptr p 0, .str name] h Q := by
  refine AC.fn' (g := g17) rfl (by simp only [List.length_cons, List.length_nil, g17]; decide) ?_; simp only [g17]
  ((try simp -implicitDefEqProofs only [later, laterE, laterD, laterR]); (repeat (first | simp -implicitDefEqProofs only [go_sem, ↓reduceIte, Nat.reduceEqDiff, Nat.reduceAdd, Nat.reduceLeDiff, Nat.reduceLT, Nat.reduceMul, reduceCtorEq, Int.reduceEq, Int.reduceLT, Int.reduceLE, Int.reduceNeg, Int.reduceToNat, Int.reduceMul, Int.reduceAdd, Int.reduceSub] | simp (disch := (first | omega | (simp only [go_sem]; done) | (simp only [lens]; omega))) only [cds])))
  refine change_ac A name (f := fun i D => D.setBody i ((D.body i).1, (D.body i).1)) (fun h1 i x b c0 c1 c2 A1 S1 e1 e2 e3 => ?_) fun h' A' S' => ?_
  · refine AC.fn' (g := g33) rfl (by simp only [List.length_cons, List.length_nil, g33]; decide) ?_; simp only [g33]
    ((try simp -implicitDefEqProofs only [later, laterE, laterD, laterR]); (repeat (first | simp -implicitDefEqProofs only [go_sem, ↓reduceIte, Nat.reduceEqDiff, Nat.reduceAdd, Nat.reduceLeDiff, Nat.reduceLT, Nat.reduceMul, reduceCtorEq, Int.reduceEq, Int.reduceLT, Int.reduceLE, Int.reduceNeg, Int.reduceToNat, Int.reduceMul, Int.reduceAdd, Int.reduceSub, e3] | simp (disch := (first | omega | (simp only [go_sem]; done) | (simp only [lens]; omega))) only [cds, e3])))
    have hs := A1.small b (List.mem_of_getElem? e2)
    have A2 := A1.setFile (a := b.1) (c := b.1) e1 ⟨hs.1, hs.1⟩
    refine ⟨_, Sub.refl, ?_, Step.refl.put (.inl (own_f (List.mem_of_getElem? e1)))⟩
    rw [body_eq e2]; exact A2
  · ((try simp -implicitDefEqProofs only [later, laterE, laterD, laterR]); (repeat (first | simp -implicitDefEqProofs only [go_sem, ↓reduceIte, Nat.reduceEqDiff, Nat.reduceAdd, Nat.reduceLeDiff, Nat.reduceLT, Nat.reduceMul, reduceCtorEq, Int.reduceEq, Int.reduceLT, Int.reduceLE, Int.reduceNeg, Int.reduceToNat, Int.reduceMul, Int.reduceAdd, Int.reduceSub] | simp (disch := (first | omega | (simp only [go_sem]; done) | (simp only [lens]; omega))) only [cds])))
    exact ⟨_, Sub.refl, hq _ A' S'⟩
/-- A clone of the names. -/
theorem cloneM_ac {l : List (Txt × V)} {m : Nat} (M : HasMap h m l) (hq : ∀ h' b, h b = none → HasMap h' b l → Step (fun _ => False) (fun c => c = b) h h' → (∀ c o, h c = some o → h' c = some o) → Q (.map b) h') : AC pg (.fn 21) [.map m] h Q := by
  refine AC.fn' (g := g21) rfl (by simp only [List.length_cons, List.length_nil, g21]; decide) ?_; simp only [g21]
  obtain ⟨es, ck, hm, R⟩ := M
  ((try simp -implicitDefEqProofs only [later, laterE, laterD, laterR]); (repeat (first | simp -implicitDefEqProofs only [go_sem, ↓reduceIte, Nat.reduceEqDiff, Nat.reduceAdd, Nat.reduceLeDiff, Nat.reduceLT, Nat.reduceMul, reduceCtorEq, Int.reduceEq, Int.reduceLT, Int.reduceLE, Int.reduceNeg, Int.reduceToNat, Int.reduceMul, Int.reduceAdd, Int.reduceSub, hm] | simp (disch := (first | omega | (simp only [go_sem]; done) | (simp only [lens]; omega))) only [cds, hm])))
  intro b hb
  ((try simp -implicitDefEqProofs only [later, laterE, laterD, laterR]); (repeat (first | simp -implicitDefEqProofs only [go_sem, ↓reduceIte, Nat.reduceEqDiff, Nat.reduceAdd, Nat.reduceLeDiff, Nat.reduceLT, Nat.reduceMul, reduceCtorEq, Int.reduceEq, Int.reduceLT, Int.reduceLE, Int.reduceNeg, Int.reduceToNat, Int.reduceMul, Int.reduceAdd, Int.reduceSub] | simp (disch := (first | omega | (simp only [go_sem]; done) | (simp only [lens]; omega))) only [cds])))
  refine ⟨_, Sub.refl, hq _ b hb ⟨es, ck, hadd_same, R⟩ (Step.put ⟨fun _ _ _ e => e, fun c e => .inr (by rw [e]; exact hb)⟩ (.inr hb)) fun c o hc => by rw [hadd_ne' (ne_fresh hc hb)]; exact hc⟩
theorem syncDir_ac (A : DiskAt h p bn bs fs D) (hq : ∀ h' bs', DiskAt h' p bn bs' fs D.syncDir.1 → Step (own p bn bs fs) (own p bn bs' fs) h h' → Q (.int .i64 D.syncDir.2) h') :
    AC pg (.fn 19) [.ptr p 0] h Q := by
  refine AC.fn' (g := g19) rfl (by simp only [List.length_cons, List.length_nil, g19]; decide) ?_; simp only [g19]
  have hd := A.head
  unfold Dk.syncDir at hq
  cases c0 : D.dead
  case true =>
    rw [c0] at hd hq
    rw [if_pos rfl] at hq
    ((try simp -implicitDefEqProofs only [later, laterE, laterD, laterR]); (repeat (first | simp -implicitDefEqProofs only [go_sem, ↓reduceIte, Nat.reduceEqDiff, Nat.reduceAdd, Nat.reduceLeDiff, Nat.reduceLT, Nat.reduceMul, reduceCtorEq, Int.reduceEq, Int.reduceLT, Int.reduceLE, Int.reduceNeg, Int.reduceToNat, Int.reduceMul, Int.reduceAdd, Int.reduceSub, hd] | simp (disch := (first | omega | (simp only [go_sem]; done) | (simp only [lens]; omega))) only [cds, hd])))
    exact ⟨_, Sub.refl, hq _ _ A Step.refl⟩
  rw [if_neg (by rw [c0]; decide)] at hq
  rw [c0] at hd
  ((try simp -implicitDefEqProofs only [later, laterE, laterD, laterR]); (repeat (first | simp -implicitDefEqProofs only [go_sem, ↓reduceIte, Nat.reduceEqDiff, Nat.reduceAdd, Nat.reduceLeDiff, Nat.reduceLT, Nat.reduceMul, reduceCtorEq, Int.reduceEq, Int.reduceLT, Int.reduceLE, Int.reduceNeg, Int.reduceToNat, Int.reduceMul, Int.reduceAdd, Int.reduceSub, hd] | simp (disch := (first | omega | (simp only [go_sem]; done) | (simp only [lens]; omega))) only [cds, hd])))
  refine deed_ac A fun h1 A1 S1 => ?_
  have hd1 := A1.head
  cases c1 : D.deed.dead
  case true =>
    rw [if_pos c1] at hq
    rw [c1] at hd1
    ((try simp -implicitDefEqProofs only [later, laterE, laterD, laterR]); (repeat (first | simp -implicitDefEqProofs only [go_sem, ↓reduceIte, Nat.reduceEqDiff, Nat.reduceAdd, Nat.reduceLeDiff, Nat.reduceLT, Nat.reduceMul, reduceCtorEq, Int.reduceEq, Int.reduceLT, Int.reduceLE, Int.reduceNeg, Int.reduceToNat, Int.reduceMul, Int.reduceAdd, Int.reduceSub, hd1] | simp (disch := (first | omega | (simp only [go_sem]; done) | (simp only [lens]; omega))) only [cds, hd1])))
    exact ⟨_, Sub.refl, hq _ _ A1 S1⟩
  rw [if_neg (by rw [c1]; decide)] at hq
  rw [c1] at hd1
  ((try simp -implicitDefEqProofs only [later, laterE, laterD, laterR]); (repeat (first | simp -implicitDefEqProofs only [go_sem, ↓reduceIte, Nat.reduceEqDiff, Nat.reduceAdd, Nat.reduceLeDiff, Nat.reduceLT, Nat.reduceMul, reduceCtorEq, Int.reduceEq, Int.reduceLT, Int.reduceLE, Int.reduceNeg, Int.reduceToNat, Int.reduceMul, Int.reduceAdd, Int.reduceSub, hd1] | simp (disch := (first | omega | (simp only [go_sem]; done) | (simp only [lens]; omega))) only [cds, hd1])))
  refine cloneM_ac A1.now fun h2 b hb M S2 K2 => ?_
  have A2 := A1.other (h' := h2) fun c o _ hc => K2 c o hc
  have hd2 := K2 _ _ hd1
  have nb : b ≠ bn := fun e => A1.lies own_bn (e ▸ hb)
  have A3 := A2.newSafe M nb A1.nowIn
  rw [c1] at A3
  have S3 : Step (own p bn bs fs) (own p bn b fs) h1 h2 := by
    refine ⟨fun c o _ hc => K2 c o hc, ?_⟩
    rintro c (e | e | e | e)
    · exact .inl (.inl e)
    · exact .inl (.inr (.inl e))
    · subst e; exact .inr hb
    · exact .inl (own_f e)
  ((try simp -implicitDefEqProofs only [later, laterE, laterD, laterR]); (repeat (first | simp -implicitDefEqProofs only [go_sem, ↓reduceIte, Nat.reduceEqDiff, Nat.reduceAdd, Nat.reduceLeDiff, Nat.reduceLT, Nat.reduceMul, reduceCtorEq, Int.reduceEq, Int.reduceLT, Int.reduceLE, Int.reduceNeg, Int.reduceToNat, Int.reduceMul, Int.reduceAdd, Int.reduceSub, hd2] | simp (disch := (first | omega | (simp only [go_sem]; done) | (simp only [lens]; omega))) only [cds, hd2])))
  exact ⟨_, Sub.refl, hq _ _ (by simpa [c1] using A3) (S1.trans (S3.put (.inl own_p)))⟩
end Go.Proofs.YtijipnkdabdioabGreatDoor
