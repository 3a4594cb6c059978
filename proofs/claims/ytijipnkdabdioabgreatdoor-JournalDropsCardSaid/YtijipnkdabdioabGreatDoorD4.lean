/- The disk, 4: the room that is used; a deed that may not be done. -/
import Derived.Test.YtijipnkdabdioabGreatDoorD3
set_option linter.unusedSimpArgs false
set_option linter.unusedVariables false
namespace Go.Proofs.YtijipnkdabdioabGreatDoor
open Mir
variable {h : H} {p bn bs : Nat} {fs : List Nat} {D : Dk} {Q : V → H → Prop}
/-- How many bytes lie at a place. -/
def szV (h : H) (v : V) : Nat := match v with
  | .ptr f _ => match h f with | some (.cells (.str s :: _) _) => s.length | _ => 0
  | _ => 0
theorem DiskAt.entry (A : DiskAt h p bn bs fs D) {es : Ents} {clock : Nat} (R : Rep es clock (ents fs D.now)) {k v : V} {n : Nat} (he : (k, v, n) ∈ es) :
    ∃ (nm : Txt) (i f : Nat) (b : Txt × Txt), k = .str nm ∧ v = .ptr f 0 ∧ getL D.now nm = some i ∧ fs[i]? = some f ∧ D.bodies[i]? = some b ∧ h f = some (.cells [.str b.1, .str b.2] false) ∧ b.1.length ≤ 1048576 := by
  have h1 : (k, v) ∈ es.map (fun e => (e.1, e.2.1)) := List.mem_map.2 ⟨_, he, rfl⟩
  rw [R.eq] at h1
  obtain ⟨q, hq, e⟩ := List.mem_map.1 h1
  obtain ⟨r, hr, e'⟩ := List.mem_map.1 hq
  obtain ⟨f, b, g1, g2, g3, g4⟩ := A.body (A.nowIn r hr)
  subst e'
  simp only [Prod.mk.injEq] at e
  have hk : (D.now.map (·.1)).Nodup := by have := R.keys; simpa [ents, List.map_map, Function.comp_def] using this
  exact ⟨r.1, r.2, f, b, e.1.symm, by rw [← e.2, fptr_at g1], getL_of_mem hk hr, g1, g2, g3, g4⟩
theorem DiskAt.used_eq (A : DiskAt h p bn bs fs D) {es : Ents} {clock : Nat} (R : Rep es clock (ents fs D.now)) : (es.map fun e => szV h e.2.1).sum = D.used := by
  have h1 : es.map (fun e => szV h e.2.1) = (es.map fun e => (e.1, e.2.1)).map fun q => szV h q.2 := by rw [List.map_map]; rfl
  rw [h1, R.eq, ents, List.map_map, List.map_map, Dk.used]
  congr 1
  refine List.map_congr_left fun e he => ?_
  obtain ⟨f, b, g1, g2, g3, g4⟩ := A.body (A.nowIn e he)
  simp [Function.comp, fptr_at g1, szV, g3, Dk.body, g2]
theorem used_le (A : DiskAt h p bn bs fs D) : D.used ≤ D.now.length * 1048576 := by
  have hs := A.small
  unfold Dk.used Dk.body
  generalize D.now = l
  induction l with
  | nil => simp
  | cons e l ih =>
    rw [List.map_cons, List.sum_cons, List.length_cons]
    have : ((D.bodies[e.2]?).getD ([], [])).1.length ≤ 1048576 := by
      cases hb : D.bodies[e.2]? with
      | none => simp
      | some b => exact (hs b (List.mem_of_getElem? hb)).1
    omega
theorem sum_le {l : List Nat} {m : Nat} (hm : ∀ x ∈ l, x ≤ m) : l.sum ≤ l.length * m := by
  induction l with
  | nil => simp
  | cons x l ih =>
    rw [List.sum_cons, List.length_cons, Nat.succ_mul]
    have := hm x (by simp); have := ih fun y hy => hm y (by simp [hy]); omega
theorem used_ac (A : DiskAt h p bn bs fs D) (hl : D.now.length < 1099511627776) (hq : Q (.int .i64 D.used) h) : AC pg (.fn 12) [.ptr p 0] h Q := by
  refine AC.fn' (g := g12) rfl (by simp only [List.length_cons, List.length_nil, g12]; decide) ?_; simp only [g12]
  have hd := A.head
  obtain ⟨es, ck, hbn, R⟩ := A.now
  have hes : es.length = D.now.length := by rw [R.len]; simp [ents]
  ((try simp -implicitDefEqProofs only [later, laterE, laterD, laterR]); (repeat (first | simp -implicitDefEqProofs only [go_sem, ↓reduceIte, Nat.reduceEqDiff, Nat.reduceAdd, Nat.reduceLeDiff, Nat.reduceLT, Nat.reduceMul, reduceCtorEq, Int.reduceEq, Int.reduceLT, Int.reduceLE, Int.reduceNeg, Int.reduceToNat, Int.reduceMul, Int.reduceAdd, Int.reduceSub, hd, hbn] | simp (disch := (first | omega | (simp only [go_sem]; done) | (simp only [lens]; omega))) only [cds, hd, hbn])))
  intro b hb
  have nbn := ne_fresh hbn hb
  have hbd : ∀ e ∈ es, szV h e.2.1 ≤ 1048576 := fun e he => by
    obtain ⟨nm, i, f, bd, e1, e2, e3, e4, e5, e6, e7⟩ := A.entry R (k := e.1) (v := e.2.1) (n := e.2.2) he
    rw [e2]; simp only [szV, e6]; exact e7
  have hsum : ∀ done rest : Ents, (done ++ rest).Perm es → (done.map fun e => szV h e.2.1).sum ≤ 1099511627776 * 1048576 := fun done rest hp => by
    refine Nat.le_trans (sum_le (m := 1048576) fun x hx => ?_) ?_
    · obtain ⟨e, he, rfl⟩ := List.mem_map.1 hx
      exact hbd e (hp.mem_iff.1 (List.mem_append_left _ he))
    · have := hp.length_eq
      rw [List.length_append] at this
      rw [List.length_map]
      exact Nat.mul_le_mul_right _ (by omega)
  ((try simp -implicitDefEqProofs only [later, laterE, laterD, laterR]); (repeat (first | simp -implicitDefEqProofs only [go_sem, ↓reduceIte, Nat.reduceEqDiff, Nat.reduceAdd, Nat.reduceLeDiff, Nat.reduceLT, Nat.reduceMul, reduceCtorEq, Int.reduceEq, Int.reduceLT, Int.reduceLE, Int.reduceNeg, Int.reduceToNat, Int.reduceMul, Int.reduceAdd, Int.reduceSub] | simp (disch := (first | omega | (simp only [go_sem]; done) | (simp only [lens]; omega))) only [cds])))
  refine E.loopX AC.mono (fun (x : Ents × Ents) a' h' => Half es ck (x.1.map fun e => e.2.2) x.1 x.2 ∧ h' = hadd h b (.iter (some bn) ck (x.1.map fun e => e.2.2) ck) ∧ a'.d = [] ∧ a'.t 0 = .ptr p 0 ∧ a'.t 3 = .int .i64 (x.1.map fun e => szV h e.2.1).sum ∧ a'.t 10 = .ptr b 0) (fun x => x.2.length) ([], es) ?_ ?_
  · refine ⟨Half.start R.born R.old, rfl, ?_⟩
    ((try simp -implicitDefEqProofs only [later, laterE, laterD, laterR]); (repeat (first | simp -implicitDefEqProofs only [go_sem, ↓reduceIte, Nat.reduceEqDiff, Nat.reduceAdd, Nat.reduceLeDiff, Nat.reduceLT, Nat.reduceMul, reduceCtorEq, Int.reduceEq, Int.reduceLT, Int.reduceLE, Int.reduceNeg, Int.reduceToNat, Int.reduceMul, Int.reduceAdd, Int.reduceSub] | simp (disch := (first | omega | (simp only [go_sem]; done) | (simp only [lens]; omega))) only [cds])))
    ((repeat' apply And.intro) <;> (first | omega | rfl | assumption | (congr 1 <;> omega) | skip))
  · rintro ⟨done, rest⟩ ⟨t, d⟩ h' ⟨H, rfl, hd', t0, t3, t10⟩
    simp only at hd' t0 t3 t10 H; subst hd'
    simp only
    ((try simp -implicitDefEqProofs only [later, laterE, laterD, laterR]); (repeat (first | simp -implicitDefEqProofs only [go_sem, ↓reduceIte, Nat.reduceEqDiff, Nat.reduceAdd, Nat.reduceLeDiff, Nat.reduceLT, Nat.reduceMul, reduceCtorEq, Int.reduceEq, Int.reduceLT, Int.reduceLE, Int.reduceNeg, Int.reduceToNat, Int.reduceMul, Int.reduceAdd, Int.reduceSub, t0, t3, t10, hbn] | simp (disch := (first | omega | (simp only [go_sem]; done) | (simp only [lens]; omega))) only [cds, t0, t3, t10, hbn])))
    refine goNXM_half H (fun hr => ?_) (fun e r1 r2 hr he H' => ?_)
    · have hfin : (done.map fun e => szV h e.2.1).sum = D.used := by
        rw [← A.used_eq R]
        have hp := H.perm
        rw [hr, List.append_nil] at hp
        exact (hp.map _).sum_nat
      rw [hfin] at t3
      ((try simp -implicitDefEqProofs only [later, laterE, laterD, laterR]); (repeat (first | simp -implicitDefEqProofs only [go_sem, ↓reduceIte, Nat.reduceEqDiff, Nat.reduceAdd, Nat.reduceLeDiff, Nat.reduceLT, Nat.reduceMul, reduceCtorEq, Int.reduceEq, Int.reduceLT, Int.reduceLE, Int.reduceNeg, Int.reduceToNat, Int.reduceMul, Int.reduceAdd, Int.reduceSub, t0, t3, t10, hbn] | simp (disch := (first | omega | (simp only [go_sem]; done) | (simp only [lens]; omega))) only [cds, t0, t3, t10, hbn])))
      exact ⟨h, Sub.put Sub.refl hb, hq⟩
    · obtain ⟨k, v, n⟩ := e
      obtain ⟨nm, i, f, bd, rfl, rfl, e3, e4, e5, e6, e7⟩ := A.entry R he
      have hfb := findBorn_mem R.born he
      have nf := ne_fresh e6 hb
      have hs0 := hsum _ _ H'.perm
      have hsz : szV h (.ptr f 0) = bd.1.length := by simp only [szV, e6]
      rw [List.map_append, List.sum_append] at hs0
      simp only [List.map_cons, List.map_nil, List.sum_cons, List.sum_nil, hsz] at hs0
      simp only at hfb
      ((try simp -implicitDefEqProofs only [later, laterE, laterD, laterR]); (repeat (first | simp -implicitDefEqProofs only [go_sem, ↓reduceIte, Nat.reduceEqDiff, Nat.reduceAdd, Nat.reduceLeDiff, Nat.reduceLT, Nat.reduceMul, reduceCtorEq, Int.reduceEq, Int.reduceLT, Int.reduceLE, Int.reduceNeg, Int.reduceToNat, Int.reduceMul, Int.reduceAdd, Int.reduceSub, t0, t3, t10, hbn, hfb, e6] | simp (disch := (first | omega | (simp only [go_sem]; done) | (simp only [lens]; omega))) only [cds, t0, t3, t10, hbn, hfb, e6])))
      refine ⟨(done ++ [(.str nm, .ptr f 0, n)], r1 ++ r2), ?_⟩
      simp only [List.map_append, List.sum_append, List.map_cons, List.map_nil, List.sum_cons, List.sum_nil, hsz]
      ((try simp -implicitDefEqProofs only [later, laterE, laterD, laterR]); (repeat (first | simp -implicitDefEqProofs only [go_sem, ↓reduceIte, Nat.reduceEqDiff, Nat.reduceAdd, Nat.reduceLeDiff, Nat.reduceLT, Nat.reduceMul, reduceCtorEq, Int.reduceEq, Int.reduceLT, Int.reduceLE, Int.reduceNeg, Int.reduceToNat, Int.reduceMul, Int.reduceAdd, Int.reduceSub, t0, t3, t10] | simp (disch := (first | omega | (simp only [go_sem]; done) | (simp only [lens]; omega))) only [cds, t0, t3, t10])))
      refine ⟨?_, ?_⟩
      · rw [hr]; simp
      · refine ⟨by simpa using H', ?_⟩
        ((repeat' apply And.intro) <;> (first | omega | rfl | assumption | (congr 1 <;> omega) | skip))
end Go.Proofs.YtijipnkdabdioabGreatDoor
