/- Walks of the disk, 1: names. -/
import Derived.Test.YtijipnkdabdioabGreatDoorP
import Derived.Test.YtijipnkdabdioabGreatDoorMir31
import Derived.Laws.RangeAny
set_option linter.unusedSimpArgs false
set_option linter.unusedVariables false
namespace Go.Proofs.YtijipnkdabdioabGreatDoor
open Mir
/-- May a byte stand in a name? -/
def okB (c : UInt8) : Bool := decide ((97 ≤ c.toNat ∧ c.toNat ≤ 122) ∨ (48 ≤ c.toNat ∧ c.toNat ≤ 57) ∨ c.toNat = 46 ∨ c.toNat = 95 ∨ c.toNat = 45)
def okI (c : Int) : Bool := decide ((97 ≤ c ∧ c ≤ 122) ∨ (48 ≤ c ∧ c ≤ 57) ∨ c = 46 ∨ c = 95 ∨ c = 45)
def nameOk (s : List UInt8) : Bool := decide (s ≠ []) && decide (s.length ≤ 40) && s.all okB
theorem okI_B (c : UInt8) : okI (c.toNat : Nat) = okB c := by unfold okI okB; rw [decide_eq_decide]; omega
theorem cut_ac {h : H} {Q : V → H → Prop} (s : List UInt8) (n : Nat) (hq : Q (.str (s.take n)) h) : AC pg (.fn 4) [.str s, .int .i64 n] h Q := by
  refine AC.fn' (g := g4) rfl (by simp only [List.length_cons, List.length_nil, g4]; decide) ?_; simp only [g4]
  by_cases c : (n : Int) < s.length
  · ((try simp -implicitDefEqProofs only [later, laterE, laterD, laterR]); (repeat (first | simp -implicitDefEqProofs only [go_sem, ↓reduceIte, Nat.reduceEqDiff, Nat.reduceAdd, Nat.reduceLeDiff, Nat.reduceLT, Nat.reduceMul, reduceCtorEq, Int.reduceEq, Int.reduceLT, Int.reduceLE, Int.reduceNeg, Int.reduceToNat, Int.reduceMul, Int.reduceAdd, Int.reduceSub] | simp (disch := (first | omega | (simp only [go_sem]; done) | (simp only [lens]; omega))) only [cds])))
    exact ⟨h, Sub.refl, hq⟩
  · ((try simp -implicitDefEqProofs only [later, laterE, laterD, laterR]); (repeat (first | simp -implicitDefEqProofs only [go_sem, ↓reduceIte, Nat.reduceEqDiff, Nat.reduceAdd, Nat.reduceLeDiff, Nat.reduceLT, Nat.reduceMul, reduceCtorEq, Int.reduceEq, Int.reduceLT, Int.reduceLE, Int.reduceNeg, Int.reduceToNat, Int.reduceMul, Int.reduceAdd, Int.reduceSub] | simp (disch := (first | omega | (simp only [go_sem]; done) | (simp only [lens]; omega))) only [cds])))
    rw [List.take_of_length_le (by omega)] at hq
    exact ⟨h, Sub.refl, hq⟩
theorem bad_ac {h : H} {Q : V → H → Prop} (c : Int) (hq : Q (.bool !(okI c)) h) : AC pg (.fn 45) [.int .i32 c] h Q := by
  refine AC.fn' (g := g45) rfl (by simp only [List.length_cons, List.length_nil, g45]; decide) ?_; simp only [g45]
  (have hI : c < 45 ∨ c = 45 ∨ c = 46 ∨ c = 47 ∨ 48 ≤ c ∧ c < 58 ∨ 58 ≤ c ∧ c < 95 ∨ c = 95 ∨ c = 96 ∨ 97 ≤ c ∧ c < 123 ∨ 123 ≤ c := (by omega)); rcases hI with hI | hI | hI | hI | hI | hI | hI | hI | hI | hI
  all_goals
    first
      | (have e : okI c = true := by (unfold okI; rw [decide_eq_true_eq]; omega))
      | (have e : okI c = false := by (unfold okI; rw [decide_eq_false_iff_not]; omega))
    rw [e] at hq
    try subst hI
    ((try simp -implicitDefEqProofs only [later, laterE, laterD, laterR]); (repeat (first | simp -implicitDefEqProofs only [go_sem, ↓reduceIte, Nat.reduceEqDiff, Nat.reduceAdd, Nat.reduceLeDiff, Nat.reduceLT, Nat.reduceMul, reduceCtorEq, Int.reduceEq, Int.reduceLT, Int.reduceLE, Int.reduceNeg, Int.reduceToNat, Int.reduceMul, Int.reduceAdd, Int.reduceSub] | simp (disch := (first | omega | (simp only [go_sem]; done) | (simp only [lens]; omega))) only [cds])))
    exact ⟨h, Sub.refl, hq⟩
theorem all_take_succ {s : List UInt8} {i : Nat} {x : UInt8} (hx : s[i]? = some x) (p : UInt8 → Bool) : (s.take (i + 1)).all p = ((s.take i).all p && p x) := by
  rw [List.take_add_one, hx, List.all_append]; simp
theorem all_false {s : List UInt8} {i : Nat} {x : UInt8} (hx : s[i]? = some x) {p : UInt8 → Bool} (hp : p x = false) : s.all p = false := by
  rw [List.all_eq_false]; exact ⟨x, List.mem_of_getElem? hx, by simp [hp]⟩
theorem size_list (s : List UInt8) : (⟨s.toArray⟩ : ByteArray).size = s.length := by simp [ByteArray.size]
theorem dec_low {s : List UInt8} {i : Nat} {x : UInt8} (hx : s[i]? = some x) (hc : x.toNat < 128) : Utf8.decode ⟨s.toArray⟩ i = (x.toNat, 1) := by
  obtain ⟨c, hxi⟩ := List.getElem?_eq_some_iff.1 hx
  have c' : i < (⟨s.toArray⟩ : ByteArray).size := by rw [size_list]; exact c
  have hx' : (⟨s.toArray⟩ : ByteArray)[i]'c' = x := hxi
  have := Go.decode_ascii ⟨s.toArray⟩ i c' (by rw [hx']; exact hc)
  rw [hx'] at this; exact this
theorem dec_high {s : List UInt8} {i : Nat} {x : UInt8} (hx : s[i]? = some x) (hc : ¬ x.toNat < 128) : 128 ≤ (Utf8.decode ⟨s.toArray⟩ i).1 := by
  obtain ⟨c, hxi⟩ := List.getElem?_eq_some_iff.1 hx
  have c' : i < (⟨s.toArray⟩ : ByteArray).size := by rw [size_list]; exact c
  have hx' : (⟨s.toArray⟩ : ByteArray)[i]'c' = x := hxi
  exact (Go.decode_high ⟨s.toArray⟩ i c' (by rw [hx']; omega)).1
theorem index_ac {h : H} {Q : V → H → Prop} (s : List UInt8) (hl : s.length < 4611686018427387904) (hq : ∀ r : Int, (0 ≤ r ↔ s.all okB = false) → Q (.int .i64 r) h) : AC pg (.fn 76) [.str s, .fn 45 [] [], .bool true] h Q := by
  refine AC.fn' (g := g76) rfl (by simp only [List.length_cons, List.length_nil, g76]; decide) ?_; simp only [g76]
  ((try simp -implicitDefEqProofs only [later, laterE, laterD, laterR]); (repeat (first | simp -implicitDefEqProofs only [go_sem, ↓reduceIte, Nat.reduceEqDiff, Nat.reduceAdd, Nat.reduceLeDiff, Nat.reduceLT, Nat.reduceMul, reduceCtorEq, Int.reduceEq, Int.reduceLT, Int.reduceLE, Int.reduceNeg, Int.reduceToNat, Int.reduceMul, Int.reduceAdd, Int.reduceSub] | simp (disch := (first | omega | (simp only [go_sem]; done) | (simp only [lens]; omega))) only [cds])))
  intro b hb
  ((try simp -implicitDefEqProofs only [later, laterE, laterD, laterR]); (repeat (first | simp -implicitDefEqProofs only [go_sem, ↓reduceIte, Nat.reduceEqDiff, Nat.reduceAdd, Nat.reduceLeDiff, Nat.reduceLT, Nat.reduceMul, reduceCtorEq, Int.reduceEq, Int.reduceLT, Int.reduceLE, Int.reduceNeg, Int.reduceToNat, Int.reduceMul, Int.reduceAdd, Int.reduceSub] | simp (disch := (first | omega | (simp only [go_sem]; done) | (simp only [lens]; omega))) only [cds])))
  refine E.loopX AC.mono (fun (i : Nat) a' h' => i ≤ s.length ∧ Sub h h' ∧ h' b = some (.sit s i) ∧ a'.d = [] ∧ a'.t 0 = .str s ∧ a'.t 1 = .fn 45 [] [] ∧ a'.t 2 = .bool true ∧ a'.t 10 = .ptr b 0 ∧ (s.take i).all okB = true) (fun i => s.length - i) 0 ?_ ?_
  · refine ⟨Nat.zero_le _, Sub.put Sub.refl hb, ?_⟩
    ((try simp -implicitDefEqProofs only [later, laterE, laterD, laterR]); (repeat (first | simp -implicitDefEqProofs only [go_sem, ↓reduceIte, Nat.reduceEqDiff, Nat.reduceAdd, Nat.reduceLeDiff, Nat.reduceLT, Nat.reduceMul, reduceCtorEq, Int.reduceEq, Int.reduceLT, Int.reduceLE, Int.reduceNeg, Int.reduceToNat, Int.reduceMul, Int.reduceAdd, Int.reduceSub] | simp (disch := (first | omega | (simp only [go_sem]; done) | (simp only [lens]; omega))) only [cds])))
  · rintro i ⟨t, d⟩ h' ⟨hi, hs, hbb, hd, t0, t1, t2, t10, hall⟩
    simp only at hd t0 t1 t2 t10; subst hd
    by_cases c : i < s.length
    · obtain ⟨x, hx⟩ : ∃ x, s[i]? = some x := ⟨s[i], List.getElem?_eq_getElem c⟩
      have hst := all_take_succ hx okB
      have hs' : ∀ o, Sub h (hadd h' b o) := fun o => Sub.put hs hb
      by_cases hc : x.toNat < 128
      · ((try simp -implicitDefEqProofs only [later, laterE, laterD, laterR]); (repeat (first | simp -implicitDefEqProofs only [go_sem, ↓reduceIte, Nat.reduceEqDiff, Nat.reduceAdd, Nat.reduceLeDiff, Nat.reduceLT, Nat.reduceMul, reduceCtorEq, Int.reduceEq, Int.reduceLT, Int.reduceLE, Int.reduceNeg, Int.reduceToNat, Int.reduceMul, Int.reduceAdd, Int.reduceSub, goNSC_on c, dec_low hx hc, t0, t1, t2, t10, hbb] | simp (disch := (first | omega | (simp only [go_sem]; done) | (simp only [lens]; omega))) only [cds, goNSC_on c, dec_low hx hc, t0, t1, t2, t10, hbb])))
        refine bad_ac _ ?_
        rw [okI_B]
        cases hok : okB x
        · have hr := hq i (by rw [all_false hx hok]; simp)
          ((try simp -implicitDefEqProofs only [later, laterE, laterD, laterR]); (repeat (first | simp -implicitDefEqProofs only [go_sem, ↓reduceIte, Nat.reduceEqDiff, Nat.reduceAdd, Nat.reduceLeDiff, Nat.reduceLT, Nat.reduceMul, reduceCtorEq, Int.reduceEq, Int.reduceLT, Int.reduceLE, Int.reduceNeg, Int.reduceToNat, Int.reduceMul, Int.reduceAdd, Int.reduceSub, t0, t1, t2, t10] | simp (disch := (first | omega | (simp only [go_sem]; done) | (simp only [lens]; omega))) only [cds, t0, t1, t2, t10])))
          exact ⟨h, hs' _, hr⟩
        · ((try simp -implicitDefEqProofs only [later, laterE, laterD, laterR]); (repeat (first | simp -implicitDefEqProofs only [go_sem, ↓reduceIte, Nat.reduceEqDiff, Nat.reduceAdd, Nat.reduceLeDiff, Nat.reduceLT, Nat.reduceMul, reduceCtorEq, Int.reduceEq, Int.reduceLT, Int.reduceLE, Int.reduceNeg, Int.reduceToNat, Int.reduceMul, Int.reduceAdd, Int.reduceSub, t0, t1, t2, t10] | simp (disch := (first | omega | (simp only [go_sem]; done) | (simp only [lens]; omega))) only [cds, t0, t1, t2, t10])))
          refine ⟨i + 1, ?_⟩
          ((try simp -implicitDefEqProofs only [later, laterE, laterD, laterR]); (repeat (first | simp -implicitDefEqProofs only [go_sem, ↓reduceIte, Nat.reduceEqDiff, Nat.reduceAdd, Nat.reduceLeDiff, Nat.reduceLT, Nat.reduceMul, reduceCtorEq, Int.reduceEq, Int.reduceLT, Int.reduceLE, Int.reduceNeg, Int.reduceToNat, Int.reduceMul, Int.reduceAdd, Int.reduceSub, t0, t1, t2, t10, hst, hall, hok] | simp (disch := (first | omega | (simp only [go_sem]; done) | (simp only [lens]; omega))) only [cds, t0, t1, t2, t10, hst, hall, hok])))
          ((repeat' apply And.intro) <;> (first | omega | rfl | assumption | (congr 1 <;> omega) | skip))
          exact hs' _
      · have hh := dec_high hx hc
        have hr := hq i (by rw [all_false hx (by unfold okB; rw [decide_eq_false_iff_not]; omega)]; simp)
        have hno : okI ((Utf8.decode ⟨s.toArray⟩ i).1 : Nat) = false := by unfold okI; rw [decide_eq_false_iff_not]; omega
        ((try simp -implicitDefEqProofs only [later, laterE, laterD, laterR]); (repeat (first | simp -implicitDefEqProofs only [go_sem, ↓reduceIte, Nat.reduceEqDiff, Nat.reduceAdd, Nat.reduceLeDiff, Nat.reduceLT, Nat.reduceMul, reduceCtorEq, Int.reduceEq, Int.reduceLT, Int.reduceLE, Int.reduceNeg, Int.reduceToNat, Int.reduceMul, Int.reduceAdd, Int.reduceSub, goNSC_on c, t0, t1, t2, t10, hbb] | simp (disch := (first | omega | (simp only [go_sem]; done) | (simp only [lens]; omega))) only [cds, goNSC_on c, t0, t1, t2, t10, hbb])))
        refine bad_ac _ ?_
        rw [hno]
        ((try simp -implicitDefEqProofs only [later, laterE, laterD, laterR]); (repeat (first | simp -implicitDefEqProofs only [go_sem, ↓reduceIte, Nat.reduceEqDiff, Nat.reduceAdd, Nat.reduceLeDiff, Nat.reduceLT, Nat.reduceMul, reduceCtorEq, Int.reduceEq, Int.reduceLT, Int.reduceLE, Int.reduceNeg, Int.reduceToNat, Int.reduceMul, Int.reduceAdd, Int.reduceSub, t0, t1, t2, t10] | simp (disch := (first | omega | (simp only [go_sem]; done) | (simp only [lens]; omega))) only [cds, t0, t1, t2, t10])))
        exact ⟨h, hs' _, hr⟩
    · have hi' : i = s.length := by omega
      subst hi'
      rw [List.take_length] at hall
      ((try simp -implicitDefEqProofs only [later, laterE, laterD, laterR]); (repeat (first | simp -implicitDefEqProofs only [go_sem, ↓reduceIte, Nat.reduceEqDiff, Nat.reduceAdd, Nat.reduceLeDiff, Nat.reduceLT, Nat.reduceMul, reduceCtorEq, Int.reduceEq, Int.reduceLT, Int.reduceLE, Int.reduceNeg, Int.reduceToNat, Int.reduceMul, Int.reduceAdd, Int.reduceSub, goNSC_end c, t0, t1, t2, t10, hbb] | simp (disch := (first | omega | (simp only [go_sem]; done) | (simp only [lens]; omega))) only [cds, goNSC_end c, t0, t1, t2, t10, hbb])))
      exact ⟨h, hs, hq (-1) (by rw [hall]; simp)⟩
theorem indexFunc_ac {h : H} {Q : V → H → Prop} (s : List UInt8) (hl : s.length < 4611686018427387904) (hq : ∀ r : Int, (0 ≤ r ↔ s.all okB = false) → Q (.int .i64 r) h) : AC pg (.fn 57) [.str s, .fn 45 [] []] h Q := by
  refine AC.fn' (g := g57) rfl (by simp only [List.length_cons, List.length_nil, g57]; decide) ?_; simp only [g57]
  ((try simp -implicitDefEqProofs only [later, laterE, laterD, laterR]); (repeat (first | simp -implicitDefEqProofs only [go_sem, ↓reduceIte, Nat.reduceEqDiff, Nat.reduceAdd, Nat.reduceLeDiff, Nat.reduceLT, Nat.reduceMul, reduceCtorEq, Int.reduceEq, Int.reduceLT, Int.reduceLE, Int.reduceNeg, Int.reduceToNat, Int.reduceMul, Int.reduceAdd, Int.reduceSub] | simp (disch := (first | omega | (simp only [go_sem]; done) | (simp only [lens]; omega))) only [cds])))
  refine index_ac s hl fun r hr => ?_
  ((try simp -implicitDefEqProofs only [later, laterE, laterD, laterR]); (repeat (first | simp -implicitDefEqProofs only [go_sem, ↓reduceIte, Nat.reduceEqDiff, Nat.reduceAdd, Nat.reduceLeDiff, Nat.reduceLT, Nat.reduceMul, reduceCtorEq, Int.reduceEq, Int.reduceLT, Int.reduceLE, Int.reduceNeg, Int.reduceToNat, Int.reduceMul, Int.reduceAdd, Int.reduceSub] | simp (disch := (first | omega | (simp only [go_sem]; done) | (simp only [lens]; omega))) only [cds])))
  exact ⟨h, Sub.refl, hq r hr⟩
theorem containsFunc_ac {h : H} {Q : V → H → Prop} (s : List UInt8) (hl : s.length < 4611686018427387904) (hq : Q (.bool !(s.all okB)) h) : AC pg (.fn 44) [.str s, .fn 45 [] []] h Q := by
  refine AC.fn' (g := g44) rfl (by simp only [List.length_cons, List.length_nil, g44]; decide) ?_; simp only [g44]
  ((try simp -implicitDefEqProofs only [later, laterE, laterD, laterR]); (repeat (first | simp -implicitDefEqProofs only [go_sem, ↓reduceIte, Nat.reduceEqDiff, Nat.reduceAdd, Nat.reduceLeDiff, Nat.reduceLT, Nat.reduceMul, reduceCtorEq, Int.reduceEq, Int.reduceLT, Int.reduceLE, Int.reduceNeg, Int.reduceToNat, Int.reduceMul, Int.reduceAdd, Int.reduceSub] | simp (disch := (first | omega | (simp only [go_sem]; done) | (simp only [lens]; omega))) only [cds])))
  refine indexFunc_ac s hl fun r hr => ?_
  have e : decide (0 ≤ r) = !(s.all okB) := by cases hh : s.all okB <;> simp [hh] at hr ⊢ <;> omega
  ((try simp -implicitDefEqProofs only [later, laterE, laterD, laterR]); (repeat (first | simp -implicitDefEqProofs only [go_sem, ↓reduceIte, Nat.reduceEqDiff, Nat.reduceAdd, Nat.reduceLeDiff, Nat.reduceLT, Nat.reduceMul, reduceCtorEq, Int.reduceEq, Int.reduceLT, Int.reduceLE, Int.reduceNeg, Int.reduceToNat, Int.reduceMul, Int.reduceAdd, Int.reduceSub, e] | simp (disch := (first | omega | (simp only [go_sem]; done) | (simp only [lens]; omega))) only [cds, e])))
  exact ⟨h, Sub.refl, hq⟩
theorem name_ac {h : H} {Q : V → H → Prop} (s : List UInt8) (hq : Q (.bool (nameOk s)) h) : AC pg (.fn 28) [.str s] h Q := by
  refine AC.fn' (g := g28) rfl (by simp only [List.length_cons, List.length_nil, g28]; decide) ?_; simp only [g28]
  by_cases c : s = []
  · subst c
    ((try simp -implicitDefEqProofs only [later, laterE, laterD, laterR]); (repeat (first | simp -implicitDefEqProofs only [go_sem, ↓reduceIte, Nat.reduceEqDiff, Nat.reduceAdd, Nat.reduceLeDiff, Nat.reduceLT, Nat.reduceMul, reduceCtorEq, Int.reduceEq, Int.reduceLT, Int.reduceLE, Int.reduceNeg, Int.reduceToNat, Int.reduceMul, Int.reduceAdd, Int.reduceSub] | simp (disch := (first | omega | (simp only [go_sem]; done) | (simp only [lens]; omega))) only [cds])))
    exact ⟨h, Sub.refl, hq⟩
  · by_cases c2 : (s.length : Int) ≤ 40
    · have c2' : s.length ≤ 40 := by omega
      rw [nameOk, decide_eq_true c, decide_eq_true c2'] at hq
      ((try simp -implicitDefEqProofs only [later, laterE, laterD, laterR]); (repeat (first | simp -implicitDefEqProofs only [go_sem, ↓reduceIte, Nat.reduceEqDiff, Nat.reduceAdd, Nat.reduceLeDiff, Nat.reduceLT, Nat.reduceMul, reduceCtorEq, Int.reduceEq, Int.reduceLT, Int.reduceLE, Int.reduceNeg, Int.reduceToNat, Int.reduceMul, Int.reduceAdd, Int.reduceSub, decide_eq_true c] | simp (disch := (first | omega | (simp only [go_sem]; done) | (simp only [lens]; omega))) only [cds, decide_eq_true c])))
      refine containsFunc_ac s (by omega) ?_
      ((try simp -implicitDefEqProofs only [later, laterE, laterD, laterR]); (repeat (first | simp -implicitDefEqProofs only [go_sem, ↓reduceIte, Nat.reduceEqDiff, Nat.reduceAdd, Nat.reduceLeDiff, Nat.reduceLT, Nat.reduceMul, reduceCtorEq, Int.reduceEq, Int.reduceLT, Int.reduceLE, Int.reduceNeg, Int.reduceToNat, Int.reduceMul, Int.reduceAdd, Int.reduceSub, Bool.not_not] | simp (disch := (first | omega | (simp only [go_sem]; done) | (simp only [lens]; omega))) only [cds, Bool.not_not])))
      exact ⟨h, Sub.refl, hq⟩
    · have c2' : ¬ s.length ≤ 40 := by omega
      rw [nameOk, decide_eq_true c, decide_eq_false c2'] at hq
      ((try simp -implicitDefEqProofs only [later, laterE, laterD, laterR]); (repeat (first | simp -implicitDefEqProofs only [go_sem, ↓reduceIte, Nat.reduceEqDiff, Nat.reduceAdd, Nat.reduceLeDiff, Nat.reduceLT, Nat.reduceMul, reduceCtorEq, Int.reduceEq, Int.reduceLT, Int.reduceLE, Int.reduceNeg, Int.reduceToNat, Int.reduceMul, Int.reduceAdd, Int.reduceSub, decide_eq_true c] | simp (disch := (first | omega | (simp only [go_sem]; done) | (simp only [lens]; omega))) only [cds, decide_eq_true c])))
      exact ⟨h, Sub.refl, hq⟩
theorem hasPrefixD_ac {h : H} {Q : V → H → Prop} (s p : List UInt8) (hq : Q (.bool (p.isPrefixOf s)) h) : AC pg (.fn 50) [.str s, .str p] h Q := by
  refine AC.fn' (g := g50) rfl (by simp only [List.length_cons, List.length_nil, g50]; decide) ?_; simp only [g50]
  by_cases c : (p.length : Int) ≤ s.length
  · have e : p.isPrefixOf s = decide (s.take p.length = p) := by
      rw [Bool.eq_iff_iff, decide_eq_true_eq, List.isPrefixOf_iff_prefix, List.prefix_iff_eq_take]
      exact ⟨fun e => e.symm, fun e => e.symm⟩
    rw [e] at hq
    ((try simp -implicitDefEqProofs only [later, laterE, laterD, laterR]); (repeat (first | simp -implicitDefEqProofs only [go_sem, ↓reduceIte, Nat.reduceEqDiff, Nat.reduceAdd, Nat.reduceLeDiff, Nat.reduceLT, Nat.reduceMul, reduceCtorEq, Int.reduceEq, Int.reduceLT, Int.reduceLE, Int.reduceNeg, Int.reduceToNat, Int.reduceMul, Int.reduceAdd, Int.reduceSub] | simp (disch := (first | omega | (simp only [go_sem]; done) | (simp only [lens]; omega))) only [cds])))
    exact ⟨h, Sub.refl, hq⟩
  · have e : p.isPrefixOf s = false := by
      rw [Bool.eq_false_iff, ne_eq, List.isPrefixOf_iff_prefix]
      exact fun h => by have := h.length_le; omega
    rw [e] at hq
    ((try simp -implicitDefEqProofs only [later, laterE, laterD, laterR]); (repeat (first | simp -implicitDefEqProofs only [go_sem, ↓reduceIte, Nat.reduceEqDiff, Nat.reduceAdd, Nat.reduceLeDiff, Nat.reduceLT, Nat.reduceMul, reduceCtorEq, Int.reduceEq, Int.reduceLT, Int.reduceLE, Int.reduceNeg, Int.reduceToNat, Int.reduceMul, Int.reduceAdd, Int.reduceSub] | simp (disch := (first | omega | (simp only [go_sem]; done) | (simp only [lens]; omega))) only [cds])))
    exact ⟨h, Sub.refl, hq⟩
theorem cutPrefixD_ac {h : H} {Q : V → H → Prop} (s p : List UInt8) (hq : Q (.tup [.str (if p.isPrefixOf s then s.drop p.length else s), .bool (p.isPrefixOf s)]) h) : AC pg (.fn 24) [.str s, .str p] h Q := by
  refine AC.fn' (g := g24) rfl (by simp only [List.length_cons, List.length_nil, g24]; decide) ?_; simp only [g24]
  ((try simp -implicitDefEqProofs only [later, laterE, laterD, laterR]); (repeat (first | simp -implicitDefEqProofs only [go_sem, ↓reduceIte, Nat.reduceEqDiff, Nat.reduceAdd, Nat.reduceLeDiff, Nat.reduceLT, Nat.reduceMul, reduceCtorEq, Int.reduceEq, Int.reduceLT, Int.reduceLE, Int.reduceNeg, Int.reduceToNat, Int.reduceMul, Int.reduceAdd, Int.reduceSub] | simp (disch := (first | omega | (simp only [go_sem]; done) | (simp only [lens]; omega))) only [cds])))
  refine AC.fn' (g := g43) rfl (by simp only [List.length_cons, List.length_nil, g43]; decide) ?_; simp only [g43]
  ((try simp -implicitDefEqProofs only [later, laterE, laterD, laterR]); (repeat (first | simp -implicitDefEqProofs only [go_sem, ↓reduceIte, Nat.reduceEqDiff, Nat.reduceAdd, Nat.reduceLeDiff, Nat.reduceLT, Nat.reduceMul, reduceCtorEq, Int.reduceEq, Int.reduceLT, Int.reduceLE, Int.reduceNeg, Int.reduceToNat, Int.reduceMul, Int.reduceAdd, Int.reduceSub] | simp (disch := (first | omega | (simp only [go_sem]; done) | (simp only [lens]; omega))) only [cds])))
  refine hasPrefixD_ac s p ?_
  cases e : p.isPrefixOf s
  · rw [e] at hq
    ((try simp -implicitDefEqProofs only [later, laterE, laterD, laterR]); (repeat (first | simp -implicitDefEqProofs only [go_sem, ↓reduceIte, Nat.reduceEqDiff, Nat.reduceAdd, Nat.reduceLeDiff, Nat.reduceLT, Nat.reduceMul, reduceCtorEq, Int.reduceEq, Int.reduceLT, Int.reduceLE, Int.reduceNeg, Int.reduceToNat, Int.reduceMul, Int.reduceAdd, Int.reduceSub] | simp (disch := (first | omega | (simp only [go_sem]; done) | (simp only [lens]; omega))) only [cds])))
    refine ⟨h, Sub.refl, ?_⟩
    ((try simp -implicitDefEqProofs only [later, laterE, laterD, laterR]); (repeat (first | simp -implicitDefEqProofs only [go_sem, ↓reduceIte, Nat.reduceEqDiff, Nat.reduceAdd, Nat.reduceLeDiff, Nat.reduceLT, Nat.reduceMul, reduceCtorEq, Int.reduceEq, Int.reduceLT, Int.reduceLE, Int.reduceNeg, Int.reduceToNat, Int.reduceMul, Int.reduceAdd, Int.reduceSub] | simp (disch := (first | omega | (simp only [go_sem]; done) | (simp only [lens]; omega))) only [cds])))
    exact ⟨h, Sub.refl, hq⟩
  · rw [e] at hq
    have := (List.isPrefixOf_iff_prefix.1 e).length_le
    ((try simp -implicitDefEqProofs only [later, laterE, laterD, laterR]); (repeat (first | simp -implicitDefEqProofs only [go_sem, ↓reduceIte, Nat.reduceEqDiff, Nat.reduceAdd, Nat.reduceLeDiff, Nat.reduceLT, Nat.reduceMul, reduceCtorEq, Int.reduceEq, Int.reduceLT, Int.reduceLE, Int.reduceNeg, Int.reduceToNat, Int.reduceMul, Int.reduceAdd, Int.reduceSub] | simp (disch := (first | omega | (simp only [go_sem]; done) | (simp only [lens]; omega))) only [cds])))
    refine ⟨h, Sub.refl, ?_⟩
    ((try simp -implicitDefEqProofs only [later, laterE, laterD, laterR]); (repeat (first | simp -implicitDefEqProofs only [go_sem, ↓reduceIte, Nat.reduceEqDiff, Nat.reduceAdd, Nat.reduceLeDiff, Nat.reduceLT, Nat.reduceMul, reduceCtorEq, Int.reduceEq, Int.reduceLT, Int.reduceLE, Int.reduceNeg, Int.reduceToNat, Int.reduceMul, Int.reduceAdd, Int.reduceSub] | simp (disch := (first | omega | (simp only [go_sem]; done) | (simp only [lens]; omega))) only [cds])))
    exact ⟨h, Sub.refl, hq⟩
end Go.Proofs.YtijipnkdabdioabGreatDoor
