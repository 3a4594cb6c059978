/- Sorting, 9: slices.Sort of at most twelve. -/
import Derived.Test.YtijipnkdabdioabGreatDoorO1
set_option linter.unusedSimpArgs false
set_option linter.unusedVariables false
namespace Go.Proofs.YtijipnkdabdioabGreatDoor
open Mir
open Go.Sort (ltStr swp PermIn SortedIn bitsLen bitsLen_le_iff)
variable {h : H} {Q : V → H → Prop} {b n : Nat} {d : Txts}
theorem wrap_u8_mod {x : Int} : IntKind.u8.wrap x = x % 256 := by simp [IntKind.wrap, IntKind.bits, IntKind.signed]
theorem goP_len {call : CP} {K : A → H → Prop} {a : A} {dd : Option Nat} {l : List IOp} {T : List UInt8} {i : Nat} {f : UInt8 → V} (hT : ∀ i < 256, (T[i]?).map UInt8.toNat = some (bitsLen i)) (hi : i < 256) (x : ∀ c : UInt8, c.toNat = bitsLen i → goP (some (f c)) dd call l a h K) : goP ((T[i]?).map f) dd call l a h K := by
  have e := hT i hi
  cases hc : T[i]? with
  | none => rw [hc] at e; cases e
  | some c => rw [hc] at e; exact x c (Option.some.inj e)
theorem tab_len : ∀ i < 256, (([0, 1, 2, 2, 3, 3, 3, 3, 4, 4, 4, 4, 4, 4, 4, 4, 5, 5, 5, 5, 5, 5, 5, 5, 5, 5, 5, 5, 5, 5, 5, 5, 6, 6, 6, 6, 6, 6, 6, 6, 6, 6, 6, 6, 6, 6, 6, 6, 6, 6, 6, 6, 6, 6, 6, 6, 6, 6, 6, 6, 6, 6, 6, 6, 7, 7, 7, 7, 7, 7, 7, 7, 7, 7, 7, 7, 7, 7, 7, 7, 7, 7, 7, 7, 7, 7, 7, 7, 7, 7, 7, 7, 7, 7, 7, 7, 7, 7, 7, 7, 7, 7, 7, 7, 7, 7, 7, 7, 7, 7, 7, 7, 7, 7, 7, 7, 7, 7, 7, 7, 7, 7, 7, 7, 7, 7, 7, 7, 8, 8, 8, 8, 8, 8, 8, 8, 8, 8, 8, 8, 8, 8, 8, 8, 8, 8, 8, 8, 8, 8, 8, 8, 8, 8, 8, 8, 8, 8, 8, 8, 8, 8, 8, 8, 8, 8, 8, 8, 8, 8, 8, 8, 8, 8, 8, 8, 8, 8, 8, 8, 8, 8, 8, 8, 8, 8, 8, 8, 8, 8, 8, 8, 8, 8, 8, 8, 8, 8, 8, 8, 8, 8, 8, 8, 8, 8, 8, 8, 8, 8, 8, 8, 8, 8, 8, 8, 8, 8, 8, 8, 8, 8, 8, 8, 8, 8, 8, 8, 8, 8, 8, 8, 8, 8, 8, 8, 8, 8, 8, 8, 8, 8, 8, 8, 8, 8, 8, 8, 8, 8, 8, 8, 8, 8, 8, 8] : List UInt8)[i]?).map UInt8.toNat = some (bitsLen i) := by decide +kernel
set_option maxRecDepth 100000 in
theorem len_nat (x : Nat) (h1 : x < 256) (hq : Q (.int .i64 (bitsLen x)) h) : AC pg (.fn 56) [.int .u64 x] h Q := by
  refine AC.fn' (g := g56) rfl (by simp only [List.length_cons, List.length_nil, g56]; decide) ?_; simp only [g56]
  ((try simp -implicitDefEqProofs only [later, laterE, laterD, laterR]); (repeat (first | simp -implicitDefEqProofs only [go_sem, ↓reduceIte, Nat.reduceEqDiff, Nat.reduceAdd, Nat.reduceLeDiff, Nat.reduceLT, Nat.reduceMul, reduceCtorEq, Int.reduceEq, Int.reduceLT, Int.reduceLE, Int.reduceNeg, Int.reduceToNat, Int.reduceMul, Int.reduceAdd, Int.reduceSub] | simp (disch := (first | omega | (simp only [go_sem]; done) | (simp only [lens]; omega))) only [cds])))
  refine AC.fn' (g := g75) rfl (by simp only [List.length_cons, List.length_nil, g75]; decide) ?_; simp only [g75]
  have h0 : 0 ≤ (x : Int) := by omega
  ((try simp -implicitDefEqProofs only [later, laterE, laterD, laterR]); (repeat (first | simp -implicitDefEqProofs only [go_sem, ↓reduceIte, Nat.reduceEqDiff, Nat.reduceAdd, Nat.reduceLeDiff, Nat.reduceLT, Nat.reduceMul, reduceCtorEq, Int.reduceEq, Int.reduceLT, Int.reduceLE, Int.reduceNeg, Int.reduceToNat, Int.reduceMul, Int.reduceAdd, Int.reduceSub, wrap_u8_mod] | simp (disch := (first | omega | (simp only [go_sem]; done) | (simp only [lens]; omega))) only [cds, wrap_u8_mod])))
  refine goP_len tab_len (by omega) fun c hc => ?_
  have hlt := c.toNat_lt
  have e : (0 : Int) + ((c.toNat : Nat) : Int) = bitsLen x := by
    rw [show ((x : Int) % 256).toNat = x by omega] at hc
    omega
  ((try simp -implicitDefEqProofs only [later, laterE, laterD, laterR]); (repeat (first | simp -implicitDefEqProofs only [go_sem, ↓reduceIte, Nat.reduceEqDiff, Nat.reduceAdd, Nat.reduceLeDiff, Nat.reduceLT, Nat.reduceMul, reduceCtorEq, Int.reduceEq, Int.reduceLT, Int.reduceLE, Int.reduceNeg, Int.reduceToNat, Int.reduceMul, Int.reduceAdd, Int.reduceSub, e] | simp (disch := (first | omega | (simp only [go_sem]; done) | (simp only [lens]; omega))) only [cds, e])))
  refine ⟨_, Sub.refl, ?_⟩
  ((try simp -implicitDefEqProofs only [later, laterE, laterD, laterR]); (repeat (first | simp -implicitDefEqProofs only [go_sem, ↓reduceIte, Nat.reduceEqDiff, Nat.reduceAdd, Nat.reduceLeDiff, Nat.reduceLT, Nat.reduceMul, reduceCtorEq, Int.reduceEq, Int.reduceLT, Int.reduceLE, Int.reduceNeg, Int.reduceToNat, Int.reduceMul, Int.reduceAdd, Int.reduceSub] | simp (disch := (first | omega | (simp only [go_sem]; done) | (simp only [lens]; omega))) only [cds])))
  exact ⟨_, Sub.refl, hq⟩
theorem merge_unique (d R : Txts) (hP : PermIn 0 d.size d R) (hS : SortedIn ltStr 0 d.size R) : R = (d.toList.mergeSort (fun x y => decide (x ≤ y))).toArray := by
  have h := Go.Sort.sorted_unique_holds Go.Sort.swo_ltStr (fun x y h1 h2 => by simp only [ltStr, decide_eq_false_iff_not, List.not_lt] at h1 h2; exact List.le_antisymm h2 h1) d _ hP hS
  have e : (fun x y : List UInt8 => !ltStr y x) = fun x y => decide (x ≤ y) := by
    funext x y
    simp only [ltStr, ← decide_not, List.not_lt]
  rw [e] at h
  rw [← h]
theorem sort_ac (hb : h b = some (rowO d)) (hn : d.size = n) (hs : n < 13) (hq : Q (.tup []) (hadd h b (rowO (d.toList.mergeSort (fun x y => decide (x ≤ y))).toArray))) :
    AC pg (.fn 41) [.sl b 0 1 n] h Q := by
  refine AC.fn' (g := g41) rfl (by simp only [List.length_cons, List.length_nil, g41]; decide) ?_; simp only [g41]
  ((try simp -implicitDefEqProofs only [later, laterE, laterD, laterR]); (repeat (first | simp -implicitDefEqProofs only [go_sem, ↓reduceIte, Nat.reduceEqDiff, Nat.reduceAdd, Nat.reduceLeDiff, Nat.reduceLT, Nat.reduceMul, reduceCtorEq, Int.reduceEq, Int.reduceLT, Int.reduceLE, Int.reduceNeg, Int.reduceToNat, Int.reduceMul, Int.reduceAdd, Int.reduceSub, wrap_u64_id (show 0 ≤ (n : Int) by omega) (by omega)] | simp (disch := (first | omega | (simp only [go_sem]; done) | (simp only [lens]; omega))) only [cds, wrap_u64_id (show 0 ≤ (n : Int) by omega) (by omega)])))
  refine len_nat n (by omega) ?_
  ((try simp -implicitDefEqProofs only [later, laterE, laterD, laterR]); (repeat (first | simp -implicitDefEqProofs only [go_sem, ↓reduceIte, Nat.reduceEqDiff, Nat.reduceAdd, Nat.reduceLeDiff, Nat.reduceLT, Nat.reduceMul, reduceCtorEq, Int.reduceEq, Int.reduceLT, Int.reduceLE, Int.reduceNeg, Int.reduceToNat, Int.reduceMul, Int.reduceAdd, Int.reduceSub] | simp (disch := (first | omega | (simp only [go_sem]; done) | (simp only [lens]; omega))) only [cds])))
  refine AC.fn' (g := g55) rfl (by simp only [List.length_cons, List.length_nil, g55]; decide) ?_; simp only [g55]
  ((try simp -implicitDefEqProofs only [later, laterE, laterD, laterR]); (repeat (first | simp -implicitDefEqProofs only [go_sem, ↓reduceIte, Nat.reduceEqDiff, Nat.reduceAdd, Nat.reduceLeDiff, Nat.reduceLT, Nat.reduceMul, reduceCtorEq, Int.reduceEq, Int.reduceLT, Int.reduceLE, Int.reduceNeg, Int.reduceToNat, Int.reduceMul, Int.reduceAdd, Int.reduceSub] | simp (disch := (first | omega | (simp only [go_sem]; done) | (simp only [lens]; omega))) only [cds])))
  refine E.loopX AC.mono (fun (x : Nat) a' h' => h' = h ∧ a'.d = [] ∧ a'.t 0 = .sl b 0 1 n ∧ a'.t 1 = .int .i64 0 ∧ a'.t 2 = .int .i64 n) (fun x => x) 0 ?_ ?_
  · ((try simp -implicitDefEqProofs only [later, laterE, laterD, laterR]); (repeat (first | simp -implicitDefEqProofs only [go_sem, ↓reduceIte, Nat.reduceEqDiff, Nat.reduceAdd, Nat.reduceLeDiff, Nat.reduceLT, Nat.reduceMul, reduceCtorEq, Int.reduceEq, Int.reduceLT, Int.reduceLE, Int.reduceNeg, Int.reduceToNat, Int.reduceMul, Int.reduceAdd, Int.reduceSub] | simp (disch := (first | omega | (simp only [go_sem]; done) | (simp only [lens]; omega))) only [cds])))
    all_goals first | trivial | skip
  · rintro x ⟨t, ds⟩ h' ⟨rfl, hd, t0, t1, t2⟩
    simp only at hd t0 t1 t2; subst hd
    have c12 : ((n : Int) - 0) ≤ 12 := by omega
    ((try simp -implicitDefEqProofs only [later, laterE, laterD, laterR]); (repeat (first | simp -implicitDefEqProofs only [go_sem, ↓reduceIte, Nat.reduceEqDiff, Nat.reduceAdd, Nat.reduceLeDiff, Nat.reduceLT, Nat.reduceMul, reduceCtorEq, Int.reduceEq, Int.reduceLT, Int.reduceLE, Int.reduceNeg, Int.reduceToNat, Int.reduceMul, Int.reduceAdd, Int.reduceSub, t0, t1, t2, Int.sub_zero] | simp (disch := (first | omega | (simp only [go_sem]; done) | (simp only [lens]; omega))) only [cds, t0, t1, t2, Int.sub_zero])))
    refine insertion_ac hb hn 0 n (by omega) (by omega) (by omega) ?_
    obtain ⟨hP, hS⟩ := Go.Sort.insertionSort_holds Go.Sort.swo_ltStr d 0 n (by omega) (by omega)
    ((try simp -implicitDefEqProofs only [later, laterE, laterD, laterR]); (repeat (first | simp -implicitDefEqProofs only [go_sem, ↓reduceIte, Nat.reduceEqDiff, Nat.reduceAdd, Nat.reduceLeDiff, Nat.reduceLT, Nat.reduceMul, reduceCtorEq, Int.reduceEq, Int.reduceLT, Int.reduceLE, Int.reduceNeg, Int.reduceToNat, Int.reduceMul, Int.reduceAdd, Int.reduceSub, t0, t1, t2] | simp (disch := (first | omega | (simp only [go_sem]; done) | (simp only [lens]; omega))) only [cds, t0, t1, t2])))
    refine ⟨_, Sub.refl, ?_⟩
    ((try simp -implicitDefEqProofs only [later, laterE, laterD, laterR]); (repeat (first | simp -implicitDefEqProofs only [go_sem, ↓reduceIte, Nat.reduceEqDiff, Nat.reduceAdd, Nat.reduceLeDiff, Nat.reduceLT, Nat.reduceMul, reduceCtorEq, Int.reduceEq, Int.reduceLT, Int.reduceLE, Int.reduceNeg, Int.reduceToNat, Int.reduceMul, Int.reduceAdd, Int.reduceSub] | simp (disch := (first | omega | (simp only [go_sem]; done) | (simp only [lens]; omega))) only [cds])))
    subst hn
    rw [merge_unique d _ hP hS] at *
    exact ⟨_, Sub.refl, hq⟩
end Go.Proofs.YtijipnkdabdioabGreatDoor
