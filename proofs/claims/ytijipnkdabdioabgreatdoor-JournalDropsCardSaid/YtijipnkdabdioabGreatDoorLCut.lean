/- Walks that serve several seats: texts cut. -/
import Derived.Test.YtijipnkdabdioabGreatDoorP
import Derived.Test.YtijipnkdabdioabGreatDoorMir31
set_option linter.unusedSimpArgs false
set_option linter.unusedVariables false
namespace Go.Proofs.YtijipnkdabdioabGreatDoor
open Mir
variable {h : H} {Q : V → H → Prop}
theorem lcut_ac (s : List UInt8) (n : Nat) (hq : Q (.str (s.take n)) h) : AC pg (.fn 4) [.str s, .int .i64 n] h Q := by
  refine AC.fn' (g := g4) rfl (by simp only [List.length_cons, List.length_nil, g4]; decide) ?_; simp only [g4]
  by_cases c : (n : Int) < s.length
  · ((try simp -implicitDefEqProofs only [later, laterE, laterD, laterR]); (repeat (first | simp -implicitDefEqProofs only [go_sem, ↓reduceIte, Nat.reduceEqDiff, Nat.reduceAdd, Nat.reduceLeDiff, Nat.reduceLT, Nat.reduceMul, reduceCtorEq, Int.reduceEq, Int.reduceLT, Int.reduceLE, Int.reduceNeg, Int.reduceToNat, Int.reduceMul, Int.reduceAdd, Int.reduceSub] | simp (disch := (first | omega | (simp only [go_sem]; done) | (simp only [lens]; omega))) only [cds])))
    exact ⟨h, Sub.refl, hq⟩
  · ((try simp -implicitDefEqProofs only [later, laterE, laterD, laterR]); (repeat (first | simp -implicitDefEqProofs only [go_sem, ↓reduceIte, Nat.reduceEqDiff, Nat.reduceAdd, Nat.reduceLeDiff, Nat.reduceLT, Nat.reduceMul, reduceCtorEq, Int.reduceEq, Int.reduceLT, Int.reduceLE, Int.reduceNeg, Int.reduceToNat, Int.reduceMul, Int.reduceAdd, Int.reduceSub] | simp (disch := (first | omega | (simp only [go_sem]; done) | (simp only [lens]; omega))) only [cds])))
    rw [List.take_of_length_le (by omega)] at hq
    exact ⟨h, Sub.refl, hq⟩
theorem hasPrefix_ac (s p : List UInt8) (hq : Q (.bool (p.isPrefixOf s)) h) : AC pg (.fn 50) [.str s, .str p] h Q := by
  have e : p.isPrefixOf s = (decide (p.length ≤ s.length) && decide (s.take p.length = p)) := by
    by_cases c : p <+: s
    · obtain ⟨t, rfl⟩ := c
      simp [List.isPrefixOf_iff_prefix]
    · rw [show p.isPrefixOf s = false from by rw [Bool.eq_false_iff]; simpa [List.isPrefixOf_iff_prefix] using c]
      symm
      rw [Bool.and_eq_false_iff]
      by_cases c2 : p.length ≤ s.length
      · right
        rw [decide_eq_false_iff_not]
        intro e; exact c ⟨s.drop p.length, by have := List.take_append_drop p.length s; rw [e] at this; exact this⟩
      · left; simpa using c2
  rw [e] at hq
  refine AC.fn' (g := g50) rfl (by simp only [List.length_cons, List.length_nil, g50]; decide) ?_; simp only [g50]
  by_cases c : p.length ≤ s.length
  · rw [decide_eq_true c, Bool.true_and] at hq
    ((try simp -implicitDefEqProofs only [later, laterE, laterD, laterR]); (repeat (first | simp -implicitDefEqProofs only [go_sem, ↓reduceIte, Nat.reduceEqDiff, Nat.reduceAdd, Nat.reduceLeDiff, Nat.reduceLT, Nat.reduceMul, reduceCtorEq, Int.reduceEq, Int.reduceLT, Int.reduceLE, Int.reduceNeg, Int.reduceToNat, Int.reduceMul, Int.reduceAdd, Int.reduceSub] | simp (disch := (first | omega | (simp only [go_sem]; done) | (simp only [lens]; omega))) only [cds])))
    exact ⟨h, Sub.refl, hq⟩
  · rw [decide_eq_false c, Bool.false_and] at hq
    ((try simp -implicitDefEqProofs only [later, laterE, laterD, laterR]); (repeat (first | simp -implicitDefEqProofs only [go_sem, ↓reduceIte, Nat.reduceEqDiff, Nat.reduceAdd, Nat.reduceLeDiff, Nat.reduceLT, Nat.reduceMul, reduceCtorEq, Int.reduceEq, Int.reduceLT, Int.reduceLE, Int.reduceNeg, Int.reduceToNat, Int.reduceMul, Int.reduceAdd, Int.reduceSub] | simp (disch := (first | omega | (simp only [go_sem]; done) | (simp only [lens]; omega))) only [cds])))
    exact ⟨h, Sub.refl, hq⟩
theorem idxB_none {c : UInt8} : ∀ {s : List UInt8}, c ∉ s → idxB c s = -1
  | [], _ => rfl
  | b :: s, h => by
    have h1 : ¬ b = c := fun e => h (e ▸ List.mem_cons_self)
    have h2 := idxB_none (s := s) fun e => h (List.mem_cons_of_mem _ e)
    simp [idxB, h1, h2]
theorem idxB_some {c : UInt8} : ∀ {l r : List UInt8}, c ∉ l → idxB c (l ++ c :: r) = (l.length : Nat)
  | [], r, _ => by simp [idxB]
  | b :: l, r, h => by
    have h1 : ¬ b = c := fun e => h (e ▸ List.mem_cons_self)
    have h2 := idxB_some (l := l) (r := r) fun e => h (List.mem_cons_of_mem _ e)
    have h3 : ¬ ((l.length : Nat) : Int) = -1 := by omega
    simp [idxB, h1, h2, h3]
theorem split_byte (c : UInt8) (s : List UInt8) : c ∉ s ∨ ∃ l r, s = l ++ c :: r ∧ c ∉ l := by
  induction s with
  | nil => exact .inl (by simp)
  | cons b s ih =>
    by_cases e : b = c
    · exact .inr ⟨[], s, by simp [e], by simp⟩
    · rcases ih with h | ⟨l, r, h1, h2⟩
      · exact .inl (by simp [h]; exact fun x => e x.symm)
      · exact .inr ⟨b :: l, r, by simp [h1], by simp [h2]; exact fun x => e x.symm⟩
theorem index1_ac (s : List UInt8) (c : UInt8) (hq : Q (.int .i64 (idxB c s)) h) : AC pg (.fn 59) [.str s, .str [c]] h Q := by
  refine AC.fn' (g := g59) rfl (by simp only [List.length_cons, List.length_nil, g59]; decide) ?_; simp only [g59]
  by_cases e : [c] = s
  · subst e
    have : idxB c [c] = 0 := by simp [idxB]
    rw [this] at hq
    ((try simp -implicitDefEqProofs only [later, laterE, laterD, laterR]); (repeat (first | simp -implicitDefEqProofs only [go_sem, ↓reduceIte, Nat.reduceEqDiff, Nat.reduceAdd, Nat.reduceLeDiff, Nat.reduceLT, Nat.reduceMul, reduceCtorEq, Int.reduceEq, Int.reduceLT, Int.reduceLE, Int.reduceNeg, Int.reduceToNat, Int.reduceMul, Int.reduceAdd, Int.reduceSub] | simp (disch := (first | omega | (simp only [go_sem]; done) | (simp only [lens]; omega))) only [cds])))
    exact ⟨h, Sub.refl, hq⟩
  · have hcn : UInt8.ofNat (Int.toNat ((c.toNat : Nat) : Int)) = c := by simp
    ((try simp -implicitDefEqProofs only [later, laterE, laterD, laterR]); (repeat (first | simp -implicitDefEqProofs only [go_sem, ↓reduceIte, Nat.reduceEqDiff, Nat.reduceAdd, Nat.reduceLeDiff, Nat.reduceLT, Nat.reduceMul, reduceCtorEq, Int.reduceEq, Int.reduceLT, Int.reduceLE, Int.reduceNeg, Int.reduceToNat, Int.reduceMul, Int.reduceAdd, Int.reduceSub, decide_eq_false e] | simp (disch := (first | omega | (simp only [go_sem]; done) | (simp only [lens]; omega))) only [cds, decide_eq_false e])))
    refine AC.fn' (g := g81) rfl (by simp only [List.length_cons, List.length_nil, g81]; decide) ?_; simp only [g81]
    ((try simp -implicitDefEqProofs only [later, laterE, laterD, laterR]); (repeat (first | simp -implicitDefEqProofs only [go_sem, ↓reduceIte, Nat.reduceEqDiff, Nat.reduceAdd, Nat.reduceLeDiff, Nat.reduceLT, Nat.reduceMul, reduceCtorEq, Int.reduceEq, Int.reduceLT, Int.reduceLE, Int.reduceNeg, Int.reduceToNat, Int.reduceMul, Int.reduceAdd, Int.reduceSub, hcn] | simp (disch := (first | omega | (simp only [go_sem]; done) | (simp only [lens]; omega))) only [cds, hcn])))
    refine ⟨h, Sub.refl, ?_⟩
    ((try simp -implicitDefEqProofs only [later, laterE, laterD, laterR]); (repeat (first | simp -implicitDefEqProofs only [go_sem, ↓reduceIte, Nat.reduceEqDiff, Nat.reduceAdd, Nat.reduceLeDiff, Nat.reduceLT, Nat.reduceMul, reduceCtorEq, Int.reduceEq, Int.reduceLT, Int.reduceLE, Int.reduceNeg, Int.reduceToNat, Int.reduceMul, Int.reduceAdd, Int.reduceSub] | simp (disch := (first | omega | (simp only [go_sem]; done) | (simp only [lens]; omega))) only [cds])))
    exact ⟨h, Sub.refl, hq⟩
/-- strings.Cut at a byte. -/
theorem cut1_ac (s : List UInt8) (c : UInt8) (hs : s.length < 1099511627776) (hn : c ∉ s → Q (.tup [.str s, .str [], .bool false]) h) (hy : ∀ l r, s = l ++ c :: r → c ∉ l → Q (.tup [.str l, .str r, .bool true]) h) : AC pg (.fn 36) [.str s, .str [c]] h Q := by
  refine AC.fn' (g := g36) rfl (by simp only [List.length_cons, List.length_nil, g36]; decide) ?_; simp only [g36]
  ((try simp -implicitDefEqProofs only [later, laterE, laterD, laterR]); (repeat (first | simp -implicitDefEqProofs only [go_sem, ↓reduceIte, Nat.reduceEqDiff, Nat.reduceAdd, Nat.reduceLeDiff, Nat.reduceLT, Nat.reduceMul, reduceCtorEq, Int.reduceEq, Int.reduceLT, Int.reduceLE, Int.reduceNeg, Int.reduceToNat, Int.reduceMul, Int.reduceAdd, Int.reduceSub] | simp (disch := (first | omega | (simp only [go_sem]; done) | (simp only [lens]; omega))) only [cds])))
  refine AC.fn' (g := g51) rfl (by simp only [List.length_cons, List.length_nil, g51]; decide) ?_; simp only [g51]
  ((try simp -implicitDefEqProofs only [later, laterE, laterD, laterR]); (repeat (first | simp -implicitDefEqProofs only [go_sem, ↓reduceIte, Nat.reduceEqDiff, Nat.reduceAdd, Nat.reduceLeDiff, Nat.reduceLT, Nat.reduceMul, reduceCtorEq, Int.reduceEq, Int.reduceLT, Int.reduceLE, Int.reduceNeg, Int.reduceToNat, Int.reduceMul, Int.reduceAdd, Int.reduceSub] | simp (disch := (first | omega | (simp only [go_sem]; done) | (simp only [lens]; omega))) only [cds])))
  refine index1_ac s c ?_
  rcases split_byte c s with e | ⟨l, r, rfl, e⟩
  · have q := hn e
    rw [idxB_none e]
    ((try simp -implicitDefEqProofs only [later, laterE, laterD, laterR]); (repeat (first | simp -implicitDefEqProofs only [go_sem, ↓reduceIte, Nat.reduceEqDiff, Nat.reduceAdd, Nat.reduceLeDiff, Nat.reduceLT, Nat.reduceMul, reduceCtorEq, Int.reduceEq, Int.reduceLT, Int.reduceLE, Int.reduceNeg, Int.reduceToNat, Int.reduceMul, Int.reduceAdd, Int.reduceSub] | simp (disch := (first | omega | (simp only [go_sem]; done) | (simp only [lens]; omega))) only [cds])))
    refine ⟨h, Sub.refl, ?_⟩
    ((try simp -implicitDefEqProofs only [later, laterE, laterD, laterR]); (repeat (first | simp -implicitDefEqProofs only [go_sem, ↓reduceIte, Nat.reduceEqDiff, Nat.reduceAdd, Nat.reduceLeDiff, Nat.reduceLT, Nat.reduceMul, reduceCtorEq, Int.reduceEq, Int.reduceLT, Int.reduceLE, Int.reduceNeg, Int.reduceToNat, Int.reduceMul, Int.reduceAdd, Int.reduceSub] | simp (disch := (first | omega | (simp only [go_sem]; done) | (simp only [lens]; omega))) only [cds])))
    exact ⟨h, Sub.refl, q⟩
  · have q := hy l r rfl e
    rw [idxB_some e]
    have hl : (l ++ c :: r).length = l.length + (r.length + 1) := by simp
    rw [hl] at hs
    have e1 : ((l.length : Nat) : Int).toNat = l.length := by omega
    have e2 : (((l.length : Nat) : Int) + 1).toNat = l.length + 1 := by omega
    have e3 : List.take l.length (l ++ c :: r) = l := by simp
    have e4 : List.drop (l.length + 1) (l ++ c :: r) = r := by simp
    have e5 : List.take (l.length + (r.length + 1)) (l ++ c :: r) = l ++ c :: r := List.take_of_length_le (by simp)
    ((try simp -implicitDefEqProofs only [later, laterE, laterD, laterR]); (repeat (first | simp -implicitDefEqProofs only [go_sem, ↓reduceIte, Nat.reduceEqDiff, Nat.reduceAdd, Nat.reduceLeDiff, Nat.reduceLT, Nat.reduceMul, reduceCtorEq, Int.reduceEq, Int.reduceLT, Int.reduceLE, Int.reduceNeg, Int.reduceToNat, Int.reduceMul, Int.reduceAdd, Int.reduceSub, e1, e2, e3, e4, e5, hl] | simp (disch := (first | omega | (simp only [go_sem]; done) | (simp only [lens]; omega))) only [cds, e1, e2, e3, e4, e5, hl])))
    refine ⟨h, Sub.refl, ?_⟩
    ((try simp -implicitDefEqProofs only [later, laterE, laterD, laterR]); (repeat (first | simp -implicitDefEqProofs only [go_sem, ↓reduceIte, Nat.reduceEqDiff, Nat.reduceAdd, Nat.reduceLeDiff, Nat.reduceLT, Nat.reduceMul, reduceCtorEq, Int.reduceEq, Int.reduceLT, Int.reduceLE, Int.reduceNeg, Int.reduceToNat, Int.reduceMul, Int.reduceAdd, Int.reduceSub, e1, e2, e3, e4, e5] | simp (disch := (first | omega | (simp only [go_sem]; done) | (simp only [lens]; omega))) only [cds, e1, e2, e3, e4, e5])))
    exact ⟨h, Sub.refl, q⟩
theorem cutPrefix_ac (s p : List UInt8) (hq : Q (if p.isPrefixOf s then .tup [.str (s.drop p.length), .bool true] else .tup [.str s, .bool false]) h) : AC pg (.fn 24) [.str s, .str p] h Q := by
  refine AC.fn' (g := g24) rfl (by simp only [List.length_cons, List.length_nil, g24]; decide) ?_; simp only [g24]
  ((try simp -implicitDefEqProofs only [later, laterE, laterD, laterR]); (repeat (first | simp -implicitDefEqProofs only [go_sem, ↓reduceIte, Nat.reduceEqDiff, Nat.reduceAdd, Nat.reduceLeDiff, Nat.reduceLT, Nat.reduceMul, reduceCtorEq, Int.reduceEq, Int.reduceLT, Int.reduceLE, Int.reduceNeg, Int.reduceToNat, Int.reduceMul, Int.reduceAdd, Int.reduceSub] | simp (disch := (first | omega | (simp only [go_sem]; done) | (simp only [lens]; omega))) only [cds])))
  refine AC.fn' (g := g43) rfl (by simp only [List.length_cons, List.length_nil, g43]; decide) ?_; simp only [g43]
  ((try simp -implicitDefEqProofs only [later, laterE, laterD, laterR]); (repeat (first | simp -implicitDefEqProofs only [go_sem, ↓reduceIte, Nat.reduceEqDiff, Nat.reduceAdd, Nat.reduceLeDiff, Nat.reduceLT, Nat.reduceMul, reduceCtorEq, Int.reduceEq, Int.reduceLT, Int.reduceLE, Int.reduceNeg, Int.reduceToNat, Int.reduceMul, Int.reduceAdd, Int.reduceSub] | simp (disch := (first | omega | (simp only [go_sem]; done) | (simp only [lens]; omega))) only [cds])))
  refine hasPrefix_ac s p ?_
  cases c : p.isPrefixOf s
  · rw [c] at hq
    ((try simp -implicitDefEqProofs only [later, laterE, laterD, laterR]); (repeat (first | simp -implicitDefEqProofs only [go_sem, ↓reduceIte, Nat.reduceEqDiff, Nat.reduceAdd, Nat.reduceLeDiff, Nat.reduceLT, Nat.reduceMul, reduceCtorEq, Int.reduceEq, Int.reduceLT, Int.reduceLE, Int.reduceNeg, Int.reduceToNat, Int.reduceMul, Int.reduceAdd, Int.reduceSub] | simp (disch := (first | omega | (simp only [go_sem]; done) | (simp only [lens]; omega))) only [cds])))
    refine ⟨h, Sub.refl, ?_⟩
    ((try simp -implicitDefEqProofs only [later, laterE, laterD, laterR]); (repeat (first | simp -implicitDefEqProofs only [go_sem, ↓reduceIte, Nat.reduceEqDiff, Nat.reduceAdd, Nat.reduceLeDiff, Nat.reduceLT, Nat.reduceMul, reduceCtorEq, Int.reduceEq, Int.reduceLT, Int.reduceLE, Int.reduceNeg, Int.reduceToNat, Int.reduceMul, Int.reduceAdd, Int.reduceSub] | simp (disch := (first | omega | (simp only [go_sem]; done) | (simp only [lens]; omega))) only [cds])))
    exact ⟨h, Sub.refl, hq⟩
  · rw [c] at hq
    have hle : p.length ≤ s.length := by
      obtain ⟨t, rfl⟩ := List.isPrefixOf_iff_prefix.1 c
      simp
    have e1 : ((p.length : Nat) : Int).toNat = p.length := by omega
    ((try simp -implicitDefEqProofs only [later, laterE, laterD, laterR]); (repeat (first | simp -implicitDefEqProofs only [go_sem, ↓reduceIte, Nat.reduceEqDiff, Nat.reduceAdd, Nat.reduceLeDiff, Nat.reduceLT, Nat.reduceMul, reduceCtorEq, Int.reduceEq, Int.reduceLT, Int.reduceLE, Int.reduceNeg, Int.reduceToNat, Int.reduceMul, Int.reduceAdd, Int.reduceSub, e1, List.take_length] | simp (disch := (first | omega | (simp only [go_sem]; done) | (simp only [lens]; omega))) only [cds, e1, List.take_length])))
    refine ⟨h, Sub.refl, ?_⟩
    ((try simp -implicitDefEqProofs only [later, laterE, laterD, laterR]); (repeat (first | simp -implicitDefEqProofs only [go_sem, ↓reduceIte, Nat.reduceEqDiff, Nat.reduceAdd, Nat.reduceLeDiff, Nat.reduceLT, Nat.reduceMul, reduceCtorEq, Int.reduceEq, Int.reduceLT, Int.reduceLE, Int.reduceNeg, Int.reduceToNat, Int.reduceMul, Int.reduceAdd, Int.reduceSub] | simp (disch := (first | omega | (simp only [go_sem]; done) | (simp only [lens]; omega))) only [cds])))
    exact ⟨h, Sub.refl, hq⟩
theorem hasPrefixS_ac (s p : List UInt8) (hq : Q (.bool (p.isPrefixOf s)) h) : AC pg (.fn 35) [.str s, .str p] h Q := by
  refine AC.fn' (g := g35) rfl (by simp only [List.length_cons, List.length_nil, g35]; decide) ?_; simp only [g35]
  ((try simp -implicitDefEqProofs only [later, laterE, laterD, laterR]); (repeat (first | simp -implicitDefEqProofs only [go_sem, ↓reduceIte, Nat.reduceEqDiff, Nat.reduceAdd, Nat.reduceLeDiff, Nat.reduceLT, Nat.reduceMul, reduceCtorEq, Int.reduceEq, Int.reduceLT, Int.reduceLE, Int.reduceNeg, Int.reduceToNat, Int.reduceMul, Int.reduceAdd, Int.reduceSub] | simp (disch := (first | omega | (simp only [go_sem]; done) | (simp only [lens]; omega))) only [cds])))
  refine hasPrefix_ac s p ?_
  ((try simp -implicitDefEqProofs only [later, laterE, laterD, laterR]); (repeat (first | simp -implicitDefEqProofs only [go_sem, ↓reduceIte, Nat.reduceEqDiff, Nat.reduceAdd, Nat.reduceLeDiff, Nat.reduceLT, Nat.reduceMul, reduceCtorEq, Int.reduceEq, Int.reduceLT, Int.reduceLE, Int.reduceNeg, Int.reduceToNat, Int.reduceMul, Int.reduceAdd, Int.reduceSub] | simp (disch := (first | omega | (simp only [go_sem]; done) | (simp only [lens]; omega))) only [cds])))
  exact ⟨h, Sub.refl, hq⟩
end Go.Proofs.YtijipnkdabdioabGreatDoor
