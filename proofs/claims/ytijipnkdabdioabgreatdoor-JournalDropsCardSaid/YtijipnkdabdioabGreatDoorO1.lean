/- Sorting, 1: rows of texts, insertion. -/
import Derived.Test.YtijipnkdabdioabGreatDoorP
import Derived.Test.YtijipnkdabdioabGreatDoorMir31
import Derived.Sort.AssemblyPlain
set_option linter.unusedSimpArgs false
set_option linter.unusedVariables false
namespace Go.Proofs.YtijipnkdabdioabGreatDoor
open Mir
abbrev Txts := Array (List UInt8)
def rowV (d : Txts) : List V := d.toList.map V.str
def rowO (d : Txts) : AObj := .cells (rowV d) false
theorem rowV_len (d : Txts) : (rowV d).length = d.size := by simp [rowV]
theorem rowV_get {d : Txts} {i : Nat} (h : i < d.size) : (rowV d)[i]? = some (.str d[i]!) := by
  simp [rowV, h]
theorem rowV_get0 {d : Txts} {i j : Nat} (h : i < d.size) (e : j = i) : (rowV d)[j]? = some (.str d[i]!) := by
  subst e; exact rowV_get h
theorem rowV_set {d : Txts} {i : Nat} {x : List UInt8} (h : i < d.size) : (rowV d).take i ++ [V.str x] ++ (rowV d).drop (i + 1) = rowV (d.setIfInBounds i x) := by
  simp only [rowV, Array.toList_setIfInBounds, List.map_set]
  rw [List.set_eq_take_append_cons_drop, if_pos (by simpa using h)]
  simp
theorem bytesLess_eq : ∀ (x y : List UInt8), Op.bytesLess x y = decide (x < y)
  | [], [] => by simp [Op.bytesLess]
  | _ :: _, [] => by simp [Op.bytesLess]
  | [], _ :: _ => by simp [Op.bytesLess]
  | a :: x, b :: y => by
    rw [Op.bytesLess, bytesLess_eq x y]
    simp only [List.cons_lt_cons_iff]
    by_cases h1 : a < b <;> by_cases h2 : a = b <;> by_cases h3 : x < y <;> simp [h1, h2, h3]
variable {h : H} {Q : V → H → Prop} {b n : Nat} {d : Txts}
open Go.Sort (ltStr swp)
theorem less_ac (x y : Txt) (hq : Q (.bool (ltStr x y)) h) : AC pg (.fn 71) [.str x, .str y] h Q := by
  refine AC.fn' (g := g71) rfl (by simp only [List.length_cons, List.length_nil, g71]; decide) ?_; simp only [g71]
  ((try simp -implicitDefEqProofs only [later, laterE, laterD, laterR]); (repeat (first | simp -implicitDefEqProofs only [go_sem, ↓reduceIte, Nat.reduceEqDiff, Nat.reduceAdd, Nat.reduceLeDiff, Nat.reduceLT, Nat.reduceMul, reduceCtorEq, Int.reduceEq, Int.reduceLT, Int.reduceLE, Int.reduceNeg, Int.reduceToNat, Int.reduceMul, Int.reduceAdd, Int.reduceSub] | simp (disch := (first | omega | (simp only [go_sem]; done) | (simp only [lens]; omega))) only [cds])))
  refine AC.fn' (g := g93) rfl (by simp only [List.length_cons, List.length_nil, g93]; decide) ?_; simp only [g93]
  ((try simp -implicitDefEqProofs only [later, laterE, laterD, laterR]); (repeat (first | simp -implicitDefEqProofs only [go_sem, ↓reduceIte, Nat.reduceEqDiff, Nat.reduceAdd, Nat.reduceLeDiff, Nat.reduceLT, Nat.reduceMul, reduceCtorEq, Int.reduceEq, Int.reduceLT, Int.reduceLE, Int.reduceNeg, Int.reduceToNat, Int.reduceMul, Int.reduceAdd, Int.reduceSub, not_true_eq_false, decide_false] | simp (disch := (first | omega | (simp only [go_sem]; done) | (simp only [lens]; omega))) only [cds, not_true_eq_false, decide_false])))
  refine ⟨h, Sub.refl, ?_⟩
  ((try simp -implicitDefEqProofs only [later, laterE, laterD, laterR]); (repeat (first | simp -implicitDefEqProofs only [go_sem, ↓reduceIte, Nat.reduceEqDiff, Nat.reduceAdd, Nat.reduceLeDiff, Nat.reduceLT, Nat.reduceMul, reduceCtorEq, Int.reduceEq, Int.reduceLT, Int.reduceLE, Int.reduceNeg, Int.reduceToNat, Int.reduceMul, Int.reduceAdd, Int.reduceSub, bytesLess_eq] | simp (disch := (first | omega | (simp only [go_sem]; done) | (simp only [lens]; omega))) only [cds, bytesLess_eq])))
  exact ⟨h, Sub.refl, hq⟩
theorem swp_size (d : Txts) (i j : Nat) : (swp d i j).size = d.size := by simp [swp]
theorem insInner_size (a : Nat) : ∀ (j : Nat) (d : Txts), (Go.Sort.insInner ltStr a j d).size = d.size
  | 0, d => rfl
  | j + 1, d => by
    rw [Go.Sort.insInner]
    split
    · rw [insInner_size a j, swp_size]
    · rfl
/-- The two writes of a swap. -/
theorem swp_row {d : Txts} {i j : Nat} (hi : i < d.size) (hj : j < d.size) : (rowV (d.setIfInBounds i d[j]!)).take j ++ [V.str d[i]!] ++ (rowV (d.setIfInBounds i d[j]!)).drop (j + 1) = rowV (swp d i j) := by
  rw [rowV_set (by simpa using hj)]; rfl
theorem insertion_ac (hb : h b = some (rowO d)) (hn : d.size = n) (a e : Nat) (ha : a ≤ e) (he : e ≤ n) (hl : n < 1099511627776) (hq : Q (.tup []) (hadd h b (rowO (Go.Sort.insertionSort ltStr d a e)))) :
    AC pg (.fn 65) [.sl b 0 1 n, .int .i64 a, .int .i64 e] h Q := by
  refine AC.fn' (g := g65) rfl (by simp only [List.length_cons, List.length_nil, g65]; decide) ?_; simp only [g65]
  ((try simp -implicitDefEqProofs only [later, laterE, laterD, laterR]); (repeat (first | simp -implicitDefEqProofs only [go_sem, ↓reduceIte, Nat.reduceEqDiff, Nat.reduceAdd, Nat.reduceLeDiff, Nat.reduceLT, Nat.reduceMul, reduceCtorEq, Int.reduceEq, Int.reduceLT, Int.reduceLE, Int.reduceNeg, Int.reduceToNat, Int.reduceMul, Int.reduceAdd, Int.reduceSub] | simp (disch := (first | omega | (simp only [go_sem]; done) | (simp only [lens]; omega))) only [cds])))
  refine E.loopX AC.mono (fun (i : Nat) a' h' => ∃ d1, a + 1 ≤ i ∧ i ≤ max (a + 1) e ∧ h' = hadd h b (rowO d1) ∧ d1.size = n ∧ Go.Sort.insOuter ltStr a e i d1 = Go.Sort.insertionSort ltStr d a e ∧ a'.d = [] ∧ a'.t 0 = .sl b 0 1 n ∧ a'.t 1 = .int .i64 a ∧ a'.t 2 = .int .i64 e ∧ a'.t 6 = .int .i64 i) (fun i => n + 1 - i) (a + 1) ?_ ?_
  · refine ⟨d, Nat.le_refl _, by omega, (hadd_self hb).symm, hn, rfl, ?_⟩
    ((try simp -implicitDefEqProofs only [later, laterE, laterD, laterR]); (repeat (first | simp -implicitDefEqProofs only [go_sem, ↓reduceIte, Nat.reduceEqDiff, Nat.reduceAdd, Nat.reduceLeDiff, Nat.reduceLT, Nat.reduceMul, reduceCtorEq, Int.reduceEq, Int.reduceLT, Int.reduceLE, Int.reduceNeg, Int.reduceToNat, Int.reduceMul, Int.reduceAdd, Int.reduceSub] | simp (disch := (first | omega | (simp only [go_sem]; done) | (simp only [lens]; omega))) only [cds])))
    ((repeat' apply And.intro) <;> (first | omega | rfl | assumption | (congr 1 <;> omega) | skip))
  · rintro i ⟨t, ds⟩ h' ⟨d1, hi1, hi2, rfl, hs, hI, hd, t0, t1, t2, t6⟩
    simp only at hd t0 t1 t2 t6; subst hd
    by_cases c : (i : Int) < e
    · rw [Go.Sort.insOuter, if_pos (by omega)] at hI
      ((try simp -implicitDefEqProofs only [later, laterE, laterD, laterR]); (repeat (first | simp -implicitDefEqProofs only [go_sem, ↓reduceIte, Nat.reduceEqDiff, Nat.reduceAdd, Nat.reduceLeDiff, Nat.reduceLT, Nat.reduceMul, reduceCtorEq, Int.reduceEq, Int.reduceLT, Int.reduceLE, Int.reduceNeg, Int.reduceToNat, Int.reduceMul, Int.reduceAdd, Int.reduceSub, t0, t1, t2, t6] | simp (disch := (first | omega | (simp only [go_sem]; done) | (simp only [lens]; omega))) only [cds, t0, t1, t2, t6])))
      refine E.loopX AC.mono (fun (j : Nat) a' h' => ∃ d2, a ≤ j ∧ j ≤ i ∧ h' = hadd h b (rowO d2) ∧ d2.size = n ∧ Go.Sort.insInner ltStr a j d2 = Go.Sort.insInner ltStr a i d1 ∧ a'.d = [] ∧ a'.t 0 = .sl b 0 1 n ∧ a'.t 1 = .int .i64 a ∧ a'.t 2 = .int .i64 e ∧ a'.t 6 = .int .i64 i ∧ a'.t 7 = .int .i64 j) (fun j => j) i ?_ ?_
      · refine ⟨d1, by omega, Nat.le_refl _, rfl, hs, rfl, ?_⟩
        ((try simp -implicitDefEqProofs only [later, laterE, laterD, laterR]); (repeat (first | simp -implicitDefEqProofs only [go_sem, ↓reduceIte, Nat.reduceEqDiff, Nat.reduceAdd, Nat.reduceLeDiff, Nat.reduceLT, Nat.reduceMul, reduceCtorEq, Int.reduceEq, Int.reduceLT, Int.reduceLE, Int.reduceNeg, Int.reduceToNat, Int.reduceMul, Int.reduceAdd, Int.reduceSub, t0, t1, t2, t6] | simp (disch := (first | omega | (simp only [go_sem]; done) | (simp only [lens]; omega))) only [cds, t0, t1, t2, t6])))
      · rintro j ⟨t, ds⟩ h' ⟨d2, hj1, hj2, rfl, hs2, hI2, hd, t0, t1, t2, t6, t7⟩
        simp only at hd t0 t1 t2 t6 t7; subst hd
        by_cases c2 : (a : Int) < j
        · obtain ⟨k, rfl⟩ : ∃ k, j = k + 1 := ⟨j - 1, by omega⟩
          have g1 := rowV_get (d := d2) (i := k + 1) (by omega)
          have ek : (((k + 1 : Nat) : Int) - 1).toNat = k := by omega
          have g2 := rowV_get (d := d2) (i := k) (by omega)
          have fit := rowV_len d2
          rw [Go.Sort.insInner] at hI2
          have w1 := rowV_set (d := d2) (i := k + 1) (x := d2[k]!) (by omega)
          have w2 := swp_row (d := d2) (i := k + 1) (j := k) (by omega) (by omega)
          have fit1 := rowV_len (d2.setIfInBounds (k + 1) d2[k]!)
          rw [Array.size_setIfInBounds] at fit1
          ((try simp -implicitDefEqProofs only [later, laterE, laterD, laterR]); (repeat (first | simp -implicitDefEqProofs only [go_sem, ↓reduceIte, Nat.reduceEqDiff, Nat.reduceAdd, Nat.reduceLeDiff, Nat.reduceLT, Nat.reduceMul, reduceCtorEq, Int.reduceEq, Int.reduceLT, Int.reduceLE, Int.reduceNeg, Int.reduceToNat, Int.reduceMul, Int.reduceAdd, Int.reduceSub, t0, t1, t2, t6, t7, rowO, g1, g2, ek] | simp (disch := (first | omega | (simp only [go_sem]; done) | (simp only [lens]; omega))) only [cds, t0, t1, t2, t6, t7, rowO, g1, g2, ek])))
          refine less_ac _ _ ?_
          cases hlt : ltStr d2[k + 1]! d2[k]!
          · have : (decide (k + 1 > a) && false) = false := by simp
            rw [hlt, this, if_neg (by decide)] at hI2
            ((try simp -implicitDefEqProofs only [later, laterE, laterD, laterR]); (repeat (first | simp -implicitDefEqProofs only [go_sem, ↓reduceIte, Nat.reduceEqDiff, Nat.reduceAdd, Nat.reduceLeDiff, Nat.reduceLT, Nat.reduceMul, reduceCtorEq, Int.reduceEq, Int.reduceLT, Int.reduceLE, Int.reduceNeg, Int.reduceToNat, Int.reduceMul, Int.reduceAdd, Int.reduceSub, t0, t1, t2, t6, t7, rowO, g1, g2, ek] | simp (disch := (first | omega | (simp only [go_sem]; done) | (simp only [lens]; omega))) only [cds, t0, t1, t2, t6, t7, rowO, g1, g2, ek])))
            refine ⟨i + 1, ?_⟩
            ((try simp -implicitDefEqProofs only [later, laterE, laterD, laterR]); (repeat (first | simp -implicitDefEqProofs only [go_sem, ↓reduceIte, Nat.reduceEqDiff, Nat.reduceAdd, Nat.reduceLeDiff, Nat.reduceLT, Nat.reduceMul, reduceCtorEq, Int.reduceEq, Int.reduceLT, Int.reduceLE, Int.reduceNeg, Int.reduceToNat, Int.reduceMul, Int.reduceAdd, Int.reduceSub, t0, t1, t2, t6, t7] | simp (disch := (first | omega | (simp only [go_sem]; done) | (simp only [lens]; omega))) only [cds, t0, t1, t2, t6, t7])))
            refine ⟨by omega, ⟨d2, ?_⟩⟩
            ((repeat' apply And.intro) <;> (first | omega | rfl | assumption | (congr 1 <;> omega) | skip))
            rw [hI2]; exact hI
          · have : (decide (k + 1 > a) && true) = true := by simp; omega
            rw [hlt, this, if_pos rfl] at hI2
            ((try simp -implicitDefEqProofs only [later, laterE, laterD, laterR]); (repeat (first | simp -implicitDefEqProofs only [go_sem, ↓reduceIte, Nat.reduceEqDiff, Nat.reduceAdd, Nat.reduceLeDiff, Nat.reduceLT, Nat.reduceMul, reduceCtorEq, Int.reduceEq, Int.reduceLT, Int.reduceLE, Int.reduceNeg, Int.reduceToNat, Int.reduceMul, Int.reduceAdd, Int.reduceSub, t0, t1, t2, t6, t7, rowO, g1, g2, ek, w1, w2] | simp (disch := (first | omega | (simp only [go_sem]; done) | (simp only [lens]; omega))) only [cds, t0, t1, t2, t6, t7, rowO, g1, g2, ek, w1, w2])))
            refine ⟨k, ?_⟩
            ((try simp -implicitDefEqProofs only [later, laterE, laterD, laterR]); (repeat (first | simp -implicitDefEqProofs only [go_sem, ↓reduceIte, Nat.reduceEqDiff, Nat.reduceAdd, Nat.reduceLeDiff, Nat.reduceLT, Nat.reduceMul, reduceCtorEq, Int.reduceEq, Int.reduceLT, Int.reduceLE, Int.reduceNeg, Int.reduceToNat, Int.reduceMul, Int.reduceAdd, Int.reduceSub, t0, t1, t2, t6, t7] | simp (disch := (first | omega | (simp only [go_sem]; done) | (simp only [lens]; omega))) only [cds, t0, t1, t2, t6, t7])))
            refine ⟨by omega, ⟨swp d2 (k + 1) k, ?_⟩⟩
            ((repeat' apply And.intro) <;> (first | omega | rfl | assumption | (congr 1 <;> omega) | skip))
            rw [swp_size]; exact hs2
        · have hj : j = a := by omega
          subst hj
          have hI2' : Go.Sort.insInner ltStr j j d2 = d2 := by
            cases j with
            | zero => rfl
            | succ j =>
              rw [Go.Sort.insInner]
              have : (decide (j + 1 > j + 1) && ltStr d2[j + 1]! d2[j]!) = false := by simp
              rw [this, if_neg (by decide)]
          rw [hI2'] at hI2
          ((try simp -implicitDefEqProofs only [later, laterE, laterD, laterR]); (repeat (first | simp -implicitDefEqProofs only [go_sem, ↓reduceIte, Nat.reduceEqDiff, Nat.reduceAdd, Nat.reduceLeDiff, Nat.reduceLT, Nat.reduceMul, reduceCtorEq, Int.reduceEq, Int.reduceLT, Int.reduceLE, Int.reduceNeg, Int.reduceToNat, Int.reduceMul, Int.reduceAdd, Int.reduceSub, t0, t1, t2, t6, t7] | simp (disch := (first | omega | (simp only [go_sem]; done) | (simp only [lens]; omega))) only [cds, t0, t1, t2, t6, t7])))
          refine ⟨i + 1, ?_⟩
          ((try simp -implicitDefEqProofs only [later, laterE, laterD, laterR]); (repeat (first | simp -implicitDefEqProofs only [go_sem, ↓reduceIte, Nat.reduceEqDiff, Nat.reduceAdd, Nat.reduceLeDiff, Nat.reduceLT, Nat.reduceMul, reduceCtorEq, Int.reduceEq, Int.reduceLT, Int.reduceLE, Int.reduceNeg, Int.reduceToNat, Int.reduceMul, Int.reduceAdd, Int.reduceSub, t0, t1, t2, t6, t7] | simp (disch := (first | omega | (simp only [go_sem]; done) | (simp only [lens]; omega))) only [cds, t0, t1, t2, t6, t7])))
          refine ⟨by omega, ⟨d2, ?_⟩⟩
          ((repeat' apply And.intro) <;> (first | omega | rfl | assumption | (congr 1 <;> omega) | skip))
          rw [hI2]; exact hI
    · rw [Go.Sort.insOuter, if_neg (by omega)] at hI
      subst hI
      ((try simp -implicitDefEqProofs only [later, laterE, laterD, laterR]); (repeat (first | simp -implicitDefEqProofs only [go_sem, ↓reduceIte, Nat.reduceEqDiff, Nat.reduceAdd, Nat.reduceLeDiff, Nat.reduceLT, Nat.reduceMul, reduceCtorEq, Int.reduceEq, Int.reduceLT, Int.reduceLE, Int.reduceNeg, Int.reduceToNat, Int.reduceMul, Int.reduceAdd, Int.reduceSub, t0, t1, t2, t6] | simp (disch := (first | omega | (simp only [go_sem]; done) | (simp only [lens]; omega))) only [cds, t0, t1, t2, t6])))
      exact ⟨_, Sub.refl, hq⟩
end Go.Proofs.YtijipnkdabdioabGreatDoor
namespace Go.Proofs.YtijipnkdabdioabGreatDoor
open Mir
open Go.Sort (ltStr swp)
variable {h : H} {Q : V → H → Prop} {b n : Nat} {d : Txts}
end Go.Proofs.YtijipnkdabdioabGreatDoor
