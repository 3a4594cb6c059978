/- Walks that serve several seats: a text in another one (strings.Index, Contains). -/
import Derived.Test.YtipnnfmgecbefaaGreatDoorP
import Derived.Test.YtipnnfmgecbefaaGreatDoorMir31
import Derived.Test.YtipnnfmgecbefaaGreatDoorIdxMath
import Derived.Test.YtipnnfmgecbefaaGreatDoorLCut
set_option linter.unusedSimpArgs false
set_option linter.unusedVariables false
namespace Go.Proofs.YtipnnfmgecbefaaGreatDoor
open Mir
variable {h : H} {Q : V → H → Prop}
theorem iand_one (n : Nat) (hn : n < 9223372036854775808) : iand .i64 (n : Int) 1 = (n % 2 : Nat) := by
  unfold iand
  have e : (BitVec.ofInt 64 (n : Int) &&& BitVec.ofInt 64 1).toNat = n % 2 := by
    rw [ofInt_nat, BitVec.toNat_and, show BitVec.ofInt 64 1 = BitVec.ofNat 64 1 from rfl, BitVec.toNat_ofNat, BitVec.toNat_ofNat, Nat.mod_eq_of_lt (show n < 2 ^ 64 by omega), show 1 % 2 ^ 64 = 1 from rfl, Nat.and_one_is_mod]
  show IntKind.i64.wrap (((BitVec.ofInt 64 (n : Int) &&& BitVec.ofInt 64 1).toNat : Nat) : Int) = _
  rw [e, wrap_i64_id (by omega) (by omega)]
theorem shr_one (n : Nat) : ishr .i64 (n : Int) 1 = (n / 2 : Nat) := by
  show (n : Int).fdiv (2 ^ (min 1 64)) = _
  rw [Int.fdiv_eq_ediv_of_nonneg _ (by decide)]; rfl
theorem hash_ac (t : List UInt8) (ht : t.length < 1099511627776) (hq : Q (.tup [.int .u32 (rkS t % rkM), .int .u32 (rkP ^ t.length % rkM)]) h) : AC pg (.fn 145) [.str t] h Q := by
  refine AC.fn' (g := g145) rfl (by simp only [List.length_cons, List.length_nil, g145]; decide) ?_; simp only [g145]
  ((try simp -implicitDefEqProofs only [later, laterE, laterD, laterR]); (repeat (first | simp -implicitDefEqProofs only [go_sem, ↓reduceIte, Nat.reduceEqDiff, Nat.reduceAdd, Nat.reduceLeDiff, Nat.reduceLT, Nat.reduceMul, reduceCtorEq, Int.reduceEq, Int.reduceLT, Int.reduceLE, Int.reduceNeg, Int.reduceToNat, Int.reduceMul, Int.reduceAdd, Int.reduceSub] | simp (disch := (first | omega | (simp only [go_sem]; done) | (simp only [lens]; omega))) only [cds])))
  refine E.loopX AC.mono (fun (i : Nat) a' h' => i ≤ t.length ∧ h' = h ∧ a'.d = [] ∧ a'.t 0 = .str t ∧ a'.t 4 = .int .u32 (rkS (t.take i) % rkM) ∧ a'.t 5 = .int .i64 i) (fun i => t.length - i) 0 ?_ ?_
  · refine ⟨Nat.zero_le _, rfl, ?_⟩
    ((try simp -implicitDefEqProofs only [later, laterE, laterD, laterR]); (repeat (first | simp -implicitDefEqProofs only [go_sem, ↓reduceIte, Nat.reduceEqDiff, Nat.reduceAdd, Nat.reduceLeDiff, Nat.reduceLT, Nat.reduceMul, reduceCtorEq, Int.reduceEq, Int.reduceLT, Int.reduceLE, Int.reduceNeg, Int.reduceToNat, Int.reduceMul, Int.reduceAdd, Int.reduceSub] | simp (disch := (first | omega | (simp only [go_sem]; done) | (simp only [lens]; omega))) only [cds])))
    ((repeat' apply And.intro) <;> (first | omega | rfl | assumption | (congr 1 <;> omega) | skip))
  · rintro i ⟨tm, d⟩ h' ⟨hi, rfl, hd, t0, t4, t5⟩
    simp only at hd t0 t4 t5; subst hd
    ((try simp -implicitDefEqProofs only [later, laterE, laterD, laterR]); (repeat (first | simp -implicitDefEqProofs only [go_sem, ↓reduceIte, Nat.reduceEqDiff, Nat.reduceAdd, Nat.reduceLeDiff, Nat.reduceLT, Nat.reduceMul, reduceCtorEq, Int.reduceEq, Int.reduceLT, Int.reduceLE, Int.reduceNeg, Int.reduceToNat, Int.reduceMul, Int.reduceAdd, Int.reduceSub, t0, t4, t5] | simp (disch := (first | omega | (simp only [go_sem]; done) | (simp only [lens]; omega))) only [cds, t0, t4, t5])))
    refine goC_if (fun c => ?_) (fun c => ?_)
    · have hi' : i < t.length := by omega
      obtain ⟨x, hx⟩ : ∃ x, t[i]? = some x := ⟨t[i], List.getElem?_eq_getElem hi'⟩
      have hb := x.toNat_lt
      have htk : t.take (i + 1) = t.take i ++ [x] := by rw [List.take_add_one, hx]; rfl
      ((try simp -implicitDefEqProofs only [later, laterE, laterD, laterR]); (repeat (first | simp -implicitDefEqProofs only [go_sem, ↓reduceIte, Nat.reduceEqDiff, Nat.reduceAdd, Nat.reduceLeDiff, Nat.reduceLT, Nat.reduceMul, reduceCtorEq, Int.reduceEq, Int.reduceLT, Int.reduceLE, Int.reduceNeg, Int.reduceToNat, Int.reduceMul, Int.reduceAdd, Int.reduceSub, t0, t4, t5, hx] | simp (disch := (first | omega | (simp only [go_sem]; done) | (simp only [lens]; omega))) only [cds, t0, t4, t5, hx])))
      refine ⟨i + 1, ?_⟩
      ((try simp -implicitDefEqProofs only [later, laterE, laterD, laterR]); (repeat (first | simp -implicitDefEqProofs only [go_sem, ↓reduceIte, Nat.reduceEqDiff, Nat.reduceAdd, Nat.reduceLeDiff, Nat.reduceLT, Nat.reduceMul, reduceCtorEq, Int.reduceEq, Int.reduceLT, Int.reduceLE, Int.reduceNeg, Int.reduceToNat, Int.reduceMul, Int.reduceAdd, Int.reduceSub, t0, t4, t5] | simp (disch := (first | omega | (simp only [go_sem]; done) | (simp only [lens]; omega))) only [cds, t0, t4, t5])))
      rw [htk, rkS_snoc, u32_mod, u32_mod]
      refine ⟨by omega, by omega, ?_⟩
      congr 1
      refine ⟨?_, by congr 1⟩
      congr 1
      simp only [rkP, rkM]
      omega
    · have hi' : i = t.length := by omega
      subst hi'
      rw [List.take_length] at t4
      ((try simp -implicitDefEqProofs only [later, laterE, laterD, laterR]); (repeat (first | simp -implicitDefEqProofs only [go_sem, ↓reduceIte, Nat.reduceEqDiff, Nat.reduceAdd, Nat.reduceLeDiff, Nat.reduceLT, Nat.reduceMul, reduceCtorEq, Int.reduceEq, Int.reduceLT, Int.reduceLE, Int.reduceNeg, Int.reduceToNat, Int.reduceMul, Int.reduceAdd, Int.reduceSub, t0, t4, t5] | simp (disch := (first | omega | (simp only [go_sem]; done) | (simp only [lens]; omega))) only [cds, t0, t4, t5])))
      refine E.loopX AC.mono (fun (x : Nat × Int × Int) a' h'' => h'' = h' ∧ x.1 ≤ t.length ∧ (x.2.1 * x.2.2 ^ x.1) % rkM = rkP ^ t.length % rkM ∧ a'.d = [] ∧ a'.t 4 = .int .u32 (rkS t % rkM) ∧ a'.t 6 = .int .u32 (x.2.1 % rkM) ∧ a'.t 7 = .int .u32 (x.2.2 % rkM) ∧ a'.t 8 = .int .i64 x.1) (fun x => x.1) (t.length, 1, rkP) ?_ ?_
      · refine ⟨rfl, Nat.le_refl _, by rw [Int.one_mul], ?_⟩
        ((try simp -implicitDefEqProofs only [later, laterE, laterD, laterR]); (repeat (first | simp -implicitDefEqProofs only [go_sem, ↓reduceIte, Nat.reduceEqDiff, Nat.reduceAdd, Nat.reduceLeDiff, Nat.reduceLT, Nat.reduceMul, reduceCtorEq, Int.reduceEq, Int.reduceLT, Int.reduceLE, Int.reduceNeg, Int.reduceToNat, Int.reduceMul, Int.reduceAdd, Int.reduceSub, t4] | simp (disch := (first | omega | (simp only [go_sem]; done) | (simp only [lens]; omega))) only [cds, t4])))
        ((repeat' apply And.intro) <;> (first | omega | rfl | assumption | (congr 1 <;> omega) | skip))
      · rintro ⟨n, p, q⟩ ⟨tm, d⟩ h'' ⟨rfl, hn, hp, hd, t4, t6, t7, t8⟩
        simp only at hd hn hp t4 t6 t7 t8; subst hd
        ((try simp -implicitDefEqProofs only [later, laterE, laterD, laterR]); (repeat (first | simp -implicitDefEqProofs only [go_sem, ↓reduceIte, Nat.reduceEqDiff, Nat.reduceAdd, Nat.reduceLeDiff, Nat.reduceLT, Nat.reduceMul, reduceCtorEq, Int.reduceEq, Int.reduceLT, Int.reduceLE, Int.reduceNeg, Int.reduceToNat, Int.reduceMul, Int.reduceAdd, Int.reduceSub, t4, t6, t7, t8] | simp (disch := (first | omega | (simp only [go_sem]; done) | (simp only [lens]; omega))) only [cds, t4, t6, t7, t8])))
        refine goC_if (fun c => ?_) (fun c => ?_)
        · have hmul : ∀ a b : Int, IntKind.u32.wrap (a % rkM * (b % rkM)) = (a * b) % rkM := fun a b => by rw [u32_mod, ← Int.mul_emod]
          have i1 := iand_one n (by omega)
          have i2 := shr_one n
          rcases Nat.mod_two_eq_zero_or_one n with e | e
          · rw [e] at i1
            ((try simp -implicitDefEqProofs only [later, laterE, laterD, laterR]); (repeat (first | simp -implicitDefEqProofs only [go_sem, ↓reduceIte, Nat.reduceEqDiff, Nat.reduceAdd, Nat.reduceLeDiff, Nat.reduceLT, Nat.reduceMul, reduceCtorEq, Int.reduceEq, Int.reduceLT, Int.reduceLE, Int.reduceNeg, Int.reduceToNat, Int.reduceMul, Int.reduceAdd, Int.reduceSub, t4, t6, t7, t8, i1, i2, hmul] | simp (disch := (first | omega | (simp only [go_sem]; done) | (simp only [lens]; omega))) only [cds, t4, t6, t7, t8, i1, i2, hmul])))
            refine ⟨(n / 2, p, q * q), ?_⟩
            ((try simp -implicitDefEqProofs only [later, laterE, laterD, laterR]); (repeat (first | simp -implicitDefEqProofs only [go_sem, ↓reduceIte, Nat.reduceEqDiff, Nat.reduceAdd, Nat.reduceLeDiff, Nat.reduceLT, Nat.reduceMul, reduceCtorEq, Int.reduceEq, Int.reduceLT, Int.reduceLE, Int.reduceNeg, Int.reduceToNat, Int.reduceMul, Int.reduceAdd, Int.reduceSub, t4, t6, t7, t8, i1, i2, hmul] | simp (disch := (first | omega | (simp only [go_sem]; done) | (simp only [lens]; omega))) only [cds, t4, t6, t7, t8, i1, i2, hmul])))
            refine ⟨by omega, by omega, ?_⟩
            rw [← hp]
            conv => rhs; rw [show n = n / 2 + n / 2 from by omega, Int.pow_add, ← Int.mul_pow]
          · rw [e] at i1
            ((try simp -implicitDefEqProofs only [later, laterE, laterD, laterR]); (repeat (first | simp -implicitDefEqProofs only [go_sem, ↓reduceIte, Nat.reduceEqDiff, Nat.reduceAdd, Nat.reduceLeDiff, Nat.reduceLT, Nat.reduceMul, reduceCtorEq, Int.reduceEq, Int.reduceLT, Int.reduceLE, Int.reduceNeg, Int.reduceToNat, Int.reduceMul, Int.reduceAdd, Int.reduceSub, t4, t6, t7, t8, i1, i2, hmul] | simp (disch := (first | omega | (simp only [go_sem]; done) | (simp only [lens]; omega))) only [cds, t4, t6, t7, t8, i1, i2, hmul])))
            refine ⟨(n / 2, p * q, q * q), ?_⟩
            ((try simp -implicitDefEqProofs only [later, laterE, laterD, laterR]); (repeat (first | simp -implicitDefEqProofs only [go_sem, ↓reduceIte, Nat.reduceEqDiff, Nat.reduceAdd, Nat.reduceLeDiff, Nat.reduceLT, Nat.reduceMul, reduceCtorEq, Int.reduceEq, Int.reduceLT, Int.reduceLE, Int.reduceNeg, Int.reduceToNat, Int.reduceMul, Int.reduceAdd, Int.reduceSub, t4, t6, t7, t8, i1, i2, hmul] | simp (disch := (first | omega | (simp only [go_sem]; done) | (simp only [lens]; omega))) only [cds, t4, t6, t7, t8, i1, i2, hmul])))
            refine ⟨by omega, by omega, ?_⟩
            rw [← hp]
            conv => rhs; rw [show n = n / 2 + n / 2 + 1 from by omega, Int.pow_succ, Int.pow_add, ← Int.mul_pow, Int.mul_comm _ q, ← Int.mul_assoc]
        · have e : n = 0 := by omega
          subst e
          rw [Int.pow_zero, Int.mul_one] at hp
          rw [hp] at t6
          ((try simp -implicitDefEqProofs only [later, laterE, laterD, laterR]); (repeat (first | simp -implicitDefEqProofs only [go_sem, ↓reduceIte, Nat.reduceEqDiff, Nat.reduceAdd, Nat.reduceLeDiff, Nat.reduceLT, Nat.reduceMul, reduceCtorEq, Int.reduceEq, Int.reduceLT, Int.reduceLE, Int.reduceNeg, Int.reduceToNat, Int.reduceMul, Int.reduceAdd, Int.reduceSub, t4, t6, t7, t8] | simp (disch := (first | omega | (simp only [go_sem]; done) | (simp only [lens]; omega))) only [cds, t4, t6, t7, t8])))
          exact ⟨_, Sub.refl, hq⟩
theorem rk_ac (s t : List UInt8) (hs : s.length < 1099511627776) (h0 : 0 < t.length) (hl : t.length ≤ s.length) (hq : Q (.int .i64 (idxS t s)) h) : AC pg (.fn 142) [.str s, .str t] h Q := by
  refine AC.fn' (g := g142) rfl (by simp only [List.length_cons, List.length_nil, g142]; decide) ?_; simp only [g142]
  ((try simp -implicitDefEqProofs only [later, laterE, laterD, laterR]); (repeat (first | simp -implicitDefEqProofs only [go_sem, ↓reduceIte, Nat.reduceEqDiff, Nat.reduceAdd, Nat.reduceLeDiff, Nat.reduceLT, Nat.reduceMul, reduceCtorEq, Int.reduceEq, Int.reduceLT, Int.reduceLE, Int.reduceNeg, Int.reduceToNat, Int.reduceMul, Int.reduceAdd, Int.reduceSub] | simp (disch := (first | omega | (simp only [go_sem]; done) | (simp only [lens]; omega))) only [cds])))
  refine hash_ac t (by omega) ?_
  ((try simp -implicitDefEqProofs only [later, laterE, laterD, laterR]); (repeat (first | simp -implicitDefEqProofs only [go_sem, ↓reduceIte, Nat.reduceEqDiff, Nat.reduceAdd, Nat.reduceLeDiff, Nat.reduceLT, Nat.reduceMul, reduceCtorEq, Int.reduceEq, Int.reduceLT, Int.reduceLE, Int.reduceNeg, Int.reduceToNat, Int.reduceMul, Int.reduceAdd, Int.reduceSub] | simp (disch := (first | omega | (simp only [go_sem]; done) | (simp only [lens]; omega))) only [cds])))
  refine E.loopX AC.mono (fun (i : Nat) a' h' => i ≤ t.length ∧ h' = h ∧ a'.d = [] ∧ a'.t 0 = .str s ∧ a'.t 1 = .str t ∧ a'.t 5 = .int .u32 (rkS t % rkM) ∧ a'.t 6 = .int .u32 (rkP ^ t.length % rkM) ∧ a'.t 7 = .int .i64 t.length ∧ a'.t 8 = .int .u32 (rkS (s.take i) % rkM) ∧ a'.t 9 = .int .i64 i) (fun i => t.length - i) 0 ?_ ?_
  · refine ⟨Nat.zero_le _, rfl, ?_⟩
    ((try simp -implicitDefEqProofs only [later, laterE, laterD, laterR]); (repeat (first | simp -implicitDefEqProofs only [go_sem, ↓reduceIte, Nat.reduceEqDiff, Nat.reduceAdd, Nat.reduceLeDiff, Nat.reduceLT, Nat.reduceMul, reduceCtorEq, Int.reduceEq, Int.reduceLT, Int.reduceLE, Int.reduceNeg, Int.reduceToNat, Int.reduceMul, Int.reduceAdd, Int.reduceSub] | simp (disch := (first | omega | (simp only [go_sem]; done) | (simp only [lens]; omega))) only [cds])))
    ((repeat' apply And.intro) <;> (first | omega | rfl | assumption | (congr 1 <;> omega) | skip))
  · rintro i ⟨tm, d⟩ h' ⟨hi, rfl, hd, t0, t1, t5, t6, t7, t8, t9⟩
    simp only at hd t0 t1 t5 t6 t7 t8 t9; subst hd
    ((try simp -implicitDefEqProofs only [later, laterE, laterD, laterR]); (repeat (first | simp -implicitDefEqProofs only [go_sem, ↓reduceIte, Nat.reduceEqDiff, Nat.reduceAdd, Nat.reduceLeDiff, Nat.reduceLT, Nat.reduceMul, reduceCtorEq, Int.reduceEq, Int.reduceLT, Int.reduceLE, Int.reduceNeg, Int.reduceToNat, Int.reduceMul, Int.reduceAdd, Int.reduceSub, t0, t1, t5, t6, t7, t8, t9] | simp (disch := (first | omega | (simp only [go_sem]; done) | (simp only [lens]; omega))) only [cds, t0, t1, t5, t6, t7, t8, t9])))
    refine goC_if (fun c => ?_) (fun c => ?_)
    · have hi' : i < s.length := by omega
      obtain ⟨x, hx⟩ : ∃ x, s[i]? = some x := ⟨s[i], List.getElem?_eq_getElem hi'⟩
      have hb := x.toNat_lt
      have htk : s.take (i + 1) = s.take i ++ [x] := by rw [List.take_add_one, hx]; rfl
      ((try simp -implicitDefEqProofs only [later, laterE, laterD, laterR]); (repeat (first | simp -implicitDefEqProofs only [go_sem, ↓reduceIte, Nat.reduceEqDiff, Nat.reduceAdd, Nat.reduceLeDiff, Nat.reduceLT, Nat.reduceMul, reduceCtorEq, Int.reduceEq, Int.reduceLT, Int.reduceLE, Int.reduceNeg, Int.reduceToNat, Int.reduceMul, Int.reduceAdd, Int.reduceSub, t0, t1, t5, t6, t7, t8, t9, hx] | simp (disch := (first | omega | (simp only [go_sem]; done) | (simp only [lens]; omega))) only [cds, t0, t1, t5, t6, t7, t8, t9, hx])))
      refine ⟨i + 1, ?_⟩
      ((try simp -implicitDefEqProofs only [later, laterE, laterD, laterR]); (repeat (first | simp -implicitDefEqProofs only [go_sem, ↓reduceIte, Nat.reduceEqDiff, Nat.reduceAdd, Nat.reduceLeDiff, Nat.reduceLT, Nat.reduceMul, reduceCtorEq, Int.reduceEq, Int.reduceLT, Int.reduceLE, Int.reduceNeg, Int.reduceToNat, Int.reduceMul, Int.reduceAdd, Int.reduceSub, t0, t1, t5, t6, t7, t8, t9] | simp (disch := (first | omega | (simp only [go_sem]; done) | (simp only [lens]; omega))) only [cds, t0, t1, t5, t6, t7, t8, t9])))
      rw [htk, rkS_snoc, u32_mod, u32_mod]
      refine ⟨by omega, by omega, ?_, by congr 1⟩
      congr 1
      simp only [rkP, rkM]
      omega
    · have hi' : i = t.length := by omega
      subst hi'
      have et : ((t.length : Nat) : Int).toNat = t.length := by omega
      by_cases e : s.take t.length = t
      · have q : idxS t s = 0 := idxS_at (i := 0) (by omega) (by unfold occ; simpa using e) (fun j hj => by omega)
        rw [q] at hq
        rw [e] at t8
        ((try simp -implicitDefEqProofs only [later, laterE, laterD, laterR]); (repeat (first | simp -implicitDefEqProofs only [go_sem, ↓reduceIte, Nat.reduceEqDiff, Nat.reduceAdd, Nat.reduceLeDiff, Nat.reduceLT, Nat.reduceMul, reduceCtorEq, Int.reduceEq, Int.reduceLT, Int.reduceLE, Int.reduceNeg, Int.reduceToNat, Int.reduceMul, Int.reduceAdd, Int.reduceSub, t0, t1, t5, t6, t7, t8, t9, et, e] | simp (disch := (first | omega | (simp only [go_sem]; done) | (simp only [lens]; omega))) only [cds, t0, t1, t5, t6, t7, t8, t9, et, e])))
        exact ⟨_, Sub.refl, hq⟩
      · by_cases e2 : rkS (s.take t.length) % rkM = rkS t % rkM
        all_goals
          ((try simp -implicitDefEqProofs only [later, laterE, laterD, laterR]); (repeat (first | simp -implicitDefEqProofs only [go_sem, ↓reduceIte, Nat.reduceEqDiff, Nat.reduceAdd, Nat.reduceLeDiff, Nat.reduceLT, Nat.reduceMul, reduceCtorEq, Int.reduceEq, Int.reduceLT, Int.reduceLE, Int.reduceNeg, Int.reduceToNat, Int.reduceMul, Int.reduceAdd, Int.reduceSub, t0, t1, t5, t6, t7, t8, t9, et, e, e2, decide_eq_false e] | simp (disch := (first | omega | (simp only [go_sem]; done) | (simp only [lens]; omega))) only [cds, t0, t1, t5, t6, t7, t8, t9, et, e, e2, decide_eq_false e])))
          refine E.loopX AC.mono (fun (i : Nat) a' h'' => t.length ≤ i ∧ i ≤ s.length ∧ h'' = h' ∧ a'.d = [] ∧ a'.t 0 = .str s ∧ a'.t 1 = .str t ∧ a'.t 5 = .int .u32 (rkS t % rkM) ∧ a'.t 6 = .int .u32 (rkP ^ t.length % rkM) ∧ a'.t 7 = .int .i64 t.length ∧ a'.t 8 = .int .u32 (rkS (win s t.length i) % rkM) ∧ a'.t 10 = .int .i64 i ∧ ∀ j, j ≤ i - t.length → ¬ occ t s j) (fun i => s.length - i) t.length ?_ ?_
          · refine ⟨Nat.le_refl _, hl, rfl, ?_⟩
            ((try simp -implicitDefEqProofs only [later, laterE, laterD, laterR]); (repeat (first | simp -implicitDefEqProofs only [go_sem, ↓reduceIte, Nat.reduceEqDiff, Nat.reduceAdd, Nat.reduceLeDiff, Nat.reduceLT, Nat.reduceMul, reduceCtorEq, Int.reduceEq, Int.reduceLT, Int.reduceLE, Int.reduceNeg, Int.reduceToNat, Int.reduceMul, Int.reduceAdd, Int.reduceSub, t0, t1, t5, t6, t7, t8, t9] | simp (disch := (first | omega | (simp only [go_sem]; done) | (simp only [lens]; omega))) only [cds, t0, t1, t5, t6, t7, t8, t9])))
            refine ⟨by simp [win], fun j hj => ?_⟩
            obtain rfl : j = 0 := by omega
            unfold occ; simpa using e
          · rintro i ⟨tm, d⟩ h'' ⟨hi1, hi2, rfl, hd, t0, t1, t5, t6, t7, t8, t10, hno⟩
            simp only at hd t0 t1 t5 t6 t7 t8 t10; subst hd
            ((try simp -implicitDefEqProofs only [later, laterE, laterD, laterR]); (repeat (first | simp -implicitDefEqProofs only [go_sem, ↓reduceIte, Nat.reduceEqDiff, Nat.reduceAdd, Nat.reduceLeDiff, Nat.reduceLT, Nat.reduceMul, reduceCtorEq, Int.reduceEq, Int.reduceLT, Int.reduceLE, Int.reduceNeg, Int.reduceToNat, Int.reduceMul, Int.reduceAdd, Int.reduceSub, t0, t1, t5, t6, t7, t8, t10] | simp (disch := (first | omega | (simp only [go_sem]; done) | (simp only [lens]; omega))) only [cds, t0, t1, t5, t6, t7, t8, t10])))
            refine goC_if (fun c => ?_) (fun c => ?_)
            · have hi' : i < s.length := by omega
              obtain ⟨x, hx⟩ : ∃ x, s[i]? = some x := ⟨s[i], List.getElem?_eq_getElem hi'⟩
              obtain ⟨y, hy⟩ : ∃ y, s[i - t.length]? = some y := ⟨s[i - t.length], List.getElem?_eq_getElem (by omega)⟩
              obtain ⟨l, hw1, hw2, hw3⟩ := win_step h0 hi1 hx hy
              have hb := x.toNat_lt
              have hb' := y.toNat_lt
              have eix : ((i : Nat) : Int).toNat = i := by omega
              have ein : (((i : Nat) : Int) - ((t.length : Nat) : Int)).toNat = i - t.length := by omega
              have eiy : (((i : Nat) : Int) + 1).toNat = i + 1 := by omega
              have eiz : (((i : Nat) : Int) + 1 - ((t.length : Nat) : Int)).toNat = i + 1 - t.length := by omega
              have roll : IntKind.u32.wrap (IntKind.u32.wrap (IntKind.u32.wrap (rkS (win s t.length i) % rkM * 16777619) + ((x.toNat : Nat) : Int)) - IntKind.u32.wrap (rkP ^ t.length % rkM * ((y.toNat : Nat) : Int))) = rkS (win s t.length (i + 1)) % rkM := by
                rw [u32_mod, u32_mod, u32_mod, u32_mod]
                rw [hw3, rkS_snoc]
                exact mod_roll rfl rfl (by rw [hw1, rkS_cons, hw2]) h0
              by_cases e3 : win s t.length (i + 1) = t
              · have q : idxS t s = (((i + 1 - t.length : Nat) : Nat) : Int) := by
                  have := (occ_win (s := s) (t := t) (i := i + 1) (by omega)).2 e3
                  exact idxS_at (by omega) this (fun j hj => hno j (by omega))
                have e4 : (s.take (i + 1)).drop (i + 1 - t.length) = t := e3
                rw [q] at hq
                rw [e3] at roll
                ((try simp -implicitDefEqProofs only [later, laterE, laterD, laterR]); (repeat (first | simp -implicitDefEqProofs only [go_sem, ↓reduceIte, Nat.reduceEqDiff, Nat.reduceAdd, Nat.reduceLeDiff, Nat.reduceLT, Nat.reduceMul, reduceCtorEq, Int.reduceEq, Int.reduceLT, Int.reduceLE, Int.reduceNeg, Int.reduceToNat, Int.reduceMul, Int.reduceAdd, Int.reduceSub, t0, t1, t5, t6, t7, t8, t10, hx, hy, eix, ein, eiy, eiz, roll, e4] | simp (disch := (first | omega | (simp only [go_sem]; done) | (simp only [lens]; omega))) only [cds, t0, t1, t5, t6, t7, t8, t10, hx, hy, eix, ein, eiy, eiz, roll, e4])))
                refine ⟨_, Sub.refl, ?_⟩
                rw [show ((i : Nat) : Int) + 1 - ((t.length : Nat) : Int) = ((i + 1 - t.length : Nat) : Int) from by omega]
                exact hq
              · have e4 : ¬ (s.take (i + 1)).drop (i + 1 - t.length) = t := e3
                by_cases e5 : rkS (win s t.length (i + 1)) % rkM = rkS t % rkM
                all_goals
                  ((try simp -implicitDefEqProofs only [later, laterE, laterD, laterR]); (repeat (first | simp -implicitDefEqProofs only [go_sem, ↓reduceIte, Nat.reduceEqDiff, Nat.reduceAdd, Nat.reduceLeDiff, Nat.reduceLT, Nat.reduceMul, reduceCtorEq, Int.reduceEq, Int.reduceLT, Int.reduceLE, Int.reduceNeg, Int.reduceToNat, Int.reduceMul, Int.reduceAdd, Int.reduceSub, t0, t1, t5, t6, t7, t8, t10, hx, hy, eix, ein, eiy, eiz, roll, e4, e5, decide_eq_false e4] | simp (disch := (first | omega | (simp only [go_sem]; done) | (simp only [lens]; omega))) only [cds, t0, t1, t5, t6, t7, t8, t10, hx, hy, eix, ein, eiy, eiz, roll, e4, e5, decide_eq_false e4])))
                  refine ⟨i + 1, ?_⟩
                  ((try simp -implicitDefEqProofs only [later, laterE, laterD, laterR]); (repeat (first | simp -implicitDefEqProofs only [go_sem, ↓reduceIte, Nat.reduceEqDiff, Nat.reduceAdd, Nat.reduceLeDiff, Nat.reduceLT, Nat.reduceMul, reduceCtorEq, Int.reduceEq, Int.reduceLT, Int.reduceLE, Int.reduceNeg, Int.reduceToNat, Int.reduceMul, Int.reduceAdd, Int.reduceSub, t0, t1, t5, t6, t7, t8, t10, roll] | simp (disch := (first | omega | (simp only [go_sem]; done) | (simp only [lens]; omega))) only [cds, t0, t1, t5, t6, t7, t8, t10, roll])))
                  refine ⟨by omega, by omega, by omega, ?_⟩
                  first | refine ⟨by rw [e5], by congr 1, fun j hj => ?_⟩ | refine ⟨by congr 1, fun j hj => ?_⟩
                  rcases Nat.lt_or_ge j (i + 1 - t.length) with c2 | c2
                  · exact hno j (by omega)
                  · obtain rfl : j = i + 1 - t.length := by omega
                    rw [occ_win (by omega)]; exact e3
            · have e6 : i = s.length := by omega
              subst e6
              have q : idxS t s = -1 := idxS_none fun j hj => hno j (by omega)
              rw [q] at hq
              ((try simp -implicitDefEqProofs only [later, laterE, laterD, laterR]); (repeat (first | simp -implicitDefEqProofs only [go_sem, ↓reduceIte, Nat.reduceEqDiff, Nat.reduceAdd, Nat.reduceLeDiff, Nat.reduceLT, Nat.reduceMul, reduceCtorEq, Int.reduceEq, Int.reduceLT, Int.reduceLE, Int.reduceNeg, Int.reduceToNat, Int.reduceMul, Int.reduceAdd, Int.reduceSub, t0, t1, t5, t6, t7, t8, t10] | simp (disch := (first | omega | (simp only [go_sem]; done) | (simp only [lens]; omega))) only [cds, t0, t1, t5, t6, t7, t8, t10])))
              exact ⟨_, Sub.refl, hq⟩
set_option maxHeartbeats 4000000 in
theorem index_ac (s t : List UInt8) (hs : s.length ≤ 64) (h2 : 2 ≤ t.length) (htl : t.length < 1099511627776) {m : Int} (hM : h 9 = some (.cells [.int .i64 m] true)) (hq : Q (.int .i64 (idxS t s)) h) : AC pg (.fn 134) [.str s, .str t] h Q := by
  refine AC.fn' (g := g134) rfl (by simp only [List.length_cons, List.length_nil, g134]; decide) ?_; simp only [g134]
  by_cases e : t = s
  · subst e
    have : idxS t t = 0 := idxS_at (i := 0) (by omega) (by unfold occ; simp) (fun j hj => by omega)
    rw [this] at hq
    ((try simp -implicitDefEqProofs only [later, laterE, laterD, laterR]); (repeat (first | simp -implicitDefEqProofs only [go_sem, ↓reduceIte, Nat.reduceEqDiff, Nat.reduceAdd, Nat.reduceLeDiff, Nat.reduceLT, Nat.reduceMul, reduceCtorEq, Int.reduceEq, Int.reduceLT, Int.reduceLE, Int.reduceNeg, Int.reduceToNat, Int.reduceMul, Int.reduceAdd, Int.reduceSub] | simp (disch := (first | omega | (simp only [go_sem]; done) | (simp only [lens]; omega))) only [cds])))
    exact ⟨_, Sub.refl, hq⟩
  · by_cases c1 : s.length ≤ t.length
    · have : idxS t s = -1 := idxS_none fun i hi ho => e (by
        obtain rfl : i = 0 := by omega
        unfold occ at ho
        rw [← ho, List.drop_zero, List.take_of_length_le (by omega)])
      rw [this] at hq
      ((try simp -implicitDefEqProofs only [later, laterE, laterD, laterR]); (repeat (first | simp -implicitDefEqProofs only [go_sem, ↓reduceIte, Nat.reduceEqDiff, Nat.reduceAdd, Nat.reduceLeDiff, Nat.reduceLT, Nat.reduceMul, reduceCtorEq, Int.reduceEq, Int.reduceLT, Int.reduceLE, Int.reduceNeg, Int.reduceToNat, Int.reduceMul, Int.reduceAdd, Int.reduceSub, decide_eq_false e] | simp (disch := (first | omega | (simp only [go_sem]; done) | (simp only [lens]; omega))) only [cds, decide_eq_false e])))
      exact ⟨_, Sub.refl, hq⟩
    · by_cases c2 : (t.length : Int) ≤ m
      · ((try simp -implicitDefEqProofs only [later, laterE, laterD, laterR]); (repeat (first | simp -implicitDefEqProofs only [go_sem, ↓reduceIte, Nat.reduceEqDiff, Nat.reduceAdd, Nat.reduceLeDiff, Nat.reduceLT, Nat.reduceMul, reduceCtorEq, Int.reduceEq, Int.reduceLT, Int.reduceLE, Int.reduceNeg, Int.reduceToNat, Int.reduceMul, Int.reduceAdd, Int.reduceSub, decide_eq_false e, hM, qsC_cells (s := s) (t := t) (m := m) (ro := true) ⟨h2, c2, by omega⟩] | simp (disch := (first | omega | (simp only [go_sem]; done) | (simp only [lens]; omega))) only [cds, decide_eq_false e, hM, qsC_cells (s := s) (t := t) (m := m) (ro := true) ⟨h2, c2, by omega⟩])))
        exact ⟨_, Sub.refl, hq⟩
      · obtain ⟨c0, ht0⟩ : ∃ z, t[0]? = some z := ⟨t[0], List.getElem?_eq_getElem (by omega)⟩
        obtain ⟨c1, ht1⟩ : ∃ z, t[1]? = some z := ⟨t[1], List.getElem?_eq_getElem (by omega)⟩
        have hb0 := c0.toNat_lt
        have hb1 := c1.toNat_lt
        have e00 : Int.toNat 0 = 0 := rfl
        have e11 : Int.toNat 1 = 1 := rfl
        ((try simp -implicitDefEqProofs only [later, laterE, laterD, laterR]); (repeat (first | simp -implicitDefEqProofs only [go_sem, ↓reduceIte, Nat.reduceEqDiff, Nat.reduceAdd, Nat.reduceLeDiff, Nat.reduceLT, Nat.reduceMul, reduceCtorEq, Int.reduceEq, Int.reduceLT, Int.reduceLE, Int.reduceNeg, Int.reduceToNat, Int.reduceMul, Int.reduceAdd, Int.reduceSub, decide_eq_false e, hM, ht0, ht1, e00, e11] | simp (disch := (first | omega | (simp only [go_sem]; done) | (simp only [lens]; omega))) only [cds, decide_eq_false e, hM, ht0, ht1, e00, e11])))
        refine E.loopX AC.mono (fun (x : Nat × Nat) a' h' => x.1 ≤ s.length - t.length + 1 ∧ x.2 ≤ x.1 ∧ h' = h ∧ a'.d = [] ∧ a'.t 0 = .str s ∧ a'.t 1 = .str t ∧ a'.t 5 = .int .i64 t.length ∧ a'.t 6 = .int .u8 (c0.toNat : Nat) ∧ a'.t 7 = .int .u8 (c1.toNat : Nat) ∧ a'.t 8 = .int .i64 x.1 ∧ a'.t 9 = .int .i64 (s.length - t.length + 1 : Nat) ∧ a'.t 10 = .int .i64 x.2 ∧ ∀ j, j < x.1 → ¬ occ t s j) (fun x => s.length - t.length + 1 - x.1) (0, 0) ?_ ?_
        · refine ⟨Nat.zero_le _, Nat.le_refl _, rfl, ?_⟩
          ((try simp -implicitDefEqProofs only [later, laterE, laterD, laterR]); (repeat (first | simp -implicitDefEqProofs only [go_sem, ↓reduceIte, Nat.reduceEqDiff, Nat.reduceAdd, Nat.reduceLeDiff, Nat.reduceLT, Nat.reduceMul, reduceCtorEq, Int.reduceEq, Int.reduceLT, Int.reduceLE, Int.reduceNeg, Int.reduceToNat, Int.reduceMul, Int.reduceAdd, Int.reduceSub] | simp (disch := (first | omega | (simp only [go_sem]; done) | (simp only [lens]; omega))) only [cds])))
          refine ⟨by congr 1; omega, ?_⟩
          first | exact fun j hj => absurd hj (Nat.not_lt_zero j) | exact ⟨rfl, fun j hj => absurd hj (Nat.not_lt_zero j)⟩
        · rintro ⟨i, k⟩ ⟨tm, d⟩ h' ⟨hi, hk, rfl, hd, t0, t1, t5, t6, t7, t8, t9, t10, hno⟩
          simp only at hi hk hd t0 t1 t5 t6 t7 t8 t9 t10 hno; subst hd
          ((try simp -implicitDefEqProofs only [later, laterE, laterD, laterR]); (repeat (first | simp -implicitDefEqProofs only [go_sem, ↓reduceIte, Nat.reduceEqDiff, Nat.reduceAdd, Nat.reduceLeDiff, Nat.reduceLT, Nat.reduceMul, reduceCtorEq, Int.reduceEq, Int.reduceLT, Int.reduceLE, Int.reduceNeg, Int.reduceToNat, Int.reduceMul, Int.reduceAdd, Int.reduceSub, t0, t1, t5, t6, t7, t8, t9, t10] | simp (disch := (first | omega | (simp only [go_sem]; done) | (simp only [lens]; omega))) only [cds, t0, t1, t5, t6, t7, t8, t9, t10])))
          refine goC_if (fun c => ?_) (fun c => ?_)
          · obtain ⟨x, hx⟩ : ∃ x, s[i]? = some x := ⟨s[i], List.getElem?_eq_getElem (by omega)⟩
            have hb := x.toNat_lt
            have ei : ((i : Nat) : Int).toNat = i := by omega
            by_cases ex : x = c0
            · subst ex
              obtain ⟨p, hpe⟩ : ∃ p, p = i := ⟨i, rfl⟩
              have hnp : ∀ j, j < p → ¬ occ t s j := fun j hj => hno j (by omega)
              subst hpe
              ((try simp -implicitDefEqProofs only [later, laterE, laterD, laterR]); (repeat (first | simp -implicitDefEqProofs only [go_sem, ↓reduceIte, Nat.reduceEqDiff, Nat.reduceAdd, Nat.reduceLeDiff, Nat.reduceLT, Nat.reduceMul, reduceCtorEq, Int.reduceEq, Int.reduceLT, Int.reduceLE, Int.reduceNeg, Int.reduceToNat, Int.reduceMul, Int.reduceAdd, Int.reduceSub, t0, t1, t5, t6, t7, t8, t9, t10, hx, ei] | simp (disch := (first | omega | (simp only [go_sem]; done) | (simp only [lens]; omega))) only [cds, t0, t1, t5, t6, t7, t8, t9, t10, hx, ei])))
              have hpl : p + t.length ≤ s.length := by omega
              have ep : ((p : Nat) : Int).toNat = p := by omega
              have ep1 : (((p : Nat) : Int) + 1).toNat = p + 1 := by omega
              have epn : (((p : Nat) : Int) + ((t.length : Nat) : Int)).toNat = p + t.length := by omega
              obtain ⟨z, hz⟩ : ∃ z, s[p + 1]? = some z := ⟨s[p + 1], List.getElem?_eq_getElem (by omega)⟩
              have hbz := z.toNat_lt
              by_cases eo : occ t s p
              · have q : idxS t s = (p : Nat) := idxS_at hpl eo hnp
                have ez : z = c1 := by
                  have := occ_get eo 1 (by omega)
                  rw [hz, ht1] at this; exact Option.some.inj this
                subst ez
                have eo' : (s.take (p + t.length)).drop p = t := eo
                rw [q] at hq
                ((try simp -implicitDefEqProofs only [later, laterE, laterD, laterR]); (repeat (first | simp -implicitDefEqProofs only [go_sem, ↓reduceIte, Nat.reduceEqDiff, Nat.reduceAdd, Nat.reduceLeDiff, Nat.reduceLT, Nat.reduceMul, reduceCtorEq, Int.reduceEq, Int.reduceLT, Int.reduceLE, Int.reduceNeg, Int.reduceToNat, Int.reduceMul, Int.reduceAdd, Int.reduceSub, t0, t1, t5, t6, t7, t8, t9, t10, hz, ep, ep1, epn, eo'] | simp (disch := (first | omega | (simp only [go_sem]; done) | (simp only [lens]; omega))) only [cds, t0, t1, t5, t6, t7, t8, t9, t10, hz, ep, ep1, epn, eo'])))
                exact ⟨_, Sub.refl, hq⟩
              · have eo' : ¬ (s.take (p + t.length)).drop p = t := eo
                have hno' : ∀ j, j < p + 1 → ¬ occ t s j := fun j hj => by
                  rcases Nat.lt_or_ge j p with c | c
                  · exact hnp j c
                  · obtain rfl : j = p := by omega
                    exact eo
                have hrk : idxS t (s.drop (p + 1)) = if idxS t s = -1 then -1 else idxS t s - ((p : Nat) + 1) := idxS_after hno'
                have epd : (s.take s.length).drop (p + 1) = s.drop (p + 1) := by rw [List.take_length]
                have esh : ishr .i64 (((p : Nat) : Int) + 1) 4 = ((p + 1) / 16 : Nat) := by
                  show (((p : Nat) : Int) + 1).fdiv (2 ^ (min 4 64)) = _
                  rw [Int.fdiv_eq_ediv_of_nonneg _ (by decide), show ((2 : Int) ^ (min 4 64)) = 16 from by decide]; omega
                have ezc : ((z.toNat : Nat) : Int) = (c1.toNat : Nat) ∨ ¬ ((z.toNat : Nat) : Int) = (c1.toNat : Nat) := Classical.em _
                by_cases ck : (4 : Int) + ((p + 1) / 16 : Nat) ≤ ((k : Nat) : Int) + 1
                · by_cases cl : p + 1 < s.length - t.length + 1
                  · have res : AC pg (.fn 142) [.str (s.drop (p + 1)), .str t] h' fun v h'' => v = .int .i64 (idxS t (s.drop (p + 1))) ∧ h'' = h' :=
                      rk_ac _ _ (by rw [List.length_drop]; omega) (by omega) (by rw [List.length_drop]; omega) ⟨rfl, rfl⟩
                    rcases ezc with ezc | ezc
                    all_goals
                      ((try simp -implicitDefEqProofs only [later, laterE, laterD, laterR]); (repeat (first | simp -implicitDefEqProofs only [go_sem, ↓reduceIte, Nat.reduceEqDiff, Nat.reduceAdd, Nat.reduceLeDiff, Nat.reduceLT, Nat.reduceMul, reduceCtorEq, Int.reduceEq, Int.reduceLT, Int.reduceLE, Int.reduceNeg, Int.reduceToNat, Int.reduceMul, Int.reduceAdd, Int.reduceSub, t0, t1, t5, t6, t7, t8, t9, t10, hz, ep, ep1, epn, eo', decide_eq_false eo', ezc, hM, esh, epd] | simp (disch := (first | omega | (simp only [go_sem]; done) | (simp only [lens]; omega))) only [cds, t0, t1, t5, t6, t7, t8, t9, t10, hz, ep, ep1, epn, eo', decide_eq_false eo', ezc, hM, esh, epd])))
                      refine AC.mono _ _ _ _ _ (fun v h'' hv => ?_) res
                      obtain ⟨rfl, rfl⟩ := hv
                      rw [hrk]
                      by_cases en : idxS t s = -1
                      · rw [if_pos en]
                        rw [en] at hq
                        ((try simp -implicitDefEqProofs only [later, laterE, laterD, laterR]); (repeat (first | simp -implicitDefEqProofs only [go_sem, ↓reduceIte, Nat.reduceEqDiff, Nat.reduceAdd, Nat.reduceLeDiff, Nat.reduceLT, Nat.reduceMul, reduceCtorEq, Int.reduceEq, Int.reduceLT, Int.reduceLE, Int.reduceNeg, Int.reduceToNat, Int.reduceMul, Int.reduceAdd, Int.reduceSub] | simp (disch := (first | omega | (simp only [go_sem]; done) | (simp only [lens]; omega))) only [cds])))
                        exact ⟨_, Sub.refl, hq⟩
                      · rw [if_neg en]
                        have hge : ((p : Nat) : Int) + 1 ≤ idxS t s ∧ idxS t s ≤ s.length := idxS_after' hno' en
                        ((try simp -implicitDefEqProofs only [later, laterE, laterD, laterR]); (repeat (first | simp -implicitDefEqProofs only [go_sem, ↓reduceIte, Nat.reduceEqDiff, Nat.reduceAdd, Nat.reduceLeDiff, Nat.reduceLT, Nat.reduceMul, reduceCtorEq, Int.reduceEq, Int.reduceLT, Int.reduceLE, Int.reduceNeg, Int.reduceToNat, Int.reduceMul, Int.reduceAdd, Int.reduceSub] | simp (disch := (first | omega | (simp only [go_sem]; done) | (simp only [lens]; omega))) only [cds])))
                        refine ⟨_, Sub.refl, ?_⟩
                        rw [show ((p : Nat) : Int) + 1 + (idxS t s - (((p : Nat) : Int) + 1)) = idxS t s from by omega]
                        exact hq
                  · rcases ezc with ezc | ezc
                    all_goals
                      ((try simp -implicitDefEqProofs only [later, laterE, laterD, laterR]); (repeat (first | simp -implicitDefEqProofs only [go_sem, ↓reduceIte, Nat.reduceEqDiff, Nat.reduceAdd, Nat.reduceLeDiff, Nat.reduceLT, Nat.reduceMul, reduceCtorEq, Int.reduceEq, Int.reduceLT, Int.reduceLE, Int.reduceNeg, Int.reduceToNat, Int.reduceMul, Int.reduceAdd, Int.reduceSub, t0, t1, t5, t6, t7, t8, t9, t10, hz, ep, ep1, epn, eo', decide_eq_false eo', ezc, hM, esh] | simp (disch := (first | omega | (simp only [go_sem]; done) | (simp only [lens]; omega))) only [cds, t0, t1, t5, t6, t7, t8, t9, t10, hz, ep, ep1, epn, eo', decide_eq_false eo', ezc, hM, esh])))
                      refine ⟨(p + 1, k + 1), ?_⟩
                      ((try simp -implicitDefEqProofs only [later, laterE, laterD, laterR]); (repeat (first | simp -implicitDefEqProofs only [go_sem, ↓reduceIte, Nat.reduceEqDiff, Nat.reduceAdd, Nat.reduceLeDiff, Nat.reduceLT, Nat.reduceMul, reduceCtorEq, Int.reduceEq, Int.reduceLT, Int.reduceLE, Int.reduceNeg, Int.reduceToNat, Int.reduceMul, Int.reduceAdd, Int.reduceSub, t0, t1, t5, t6, t7, t8, t9, t10] | simp (disch := (first | omega | (simp only [go_sem]; done) | (simp only [lens]; omega))) only [cds, t0, t1, t5, t6, t7, t8, t9, t10])))
                      ((repeat' apply And.intro) <;> (first | omega | rfl | assumption | (congr 1 <;> omega) | skip))
                      try exact hno'
                · rcases ezc with ezc | ezc
                  all_goals
                    ((try simp -implicitDefEqProofs only [later, laterE, laterD, laterR]); (repeat (first | simp -implicitDefEqProofs only [go_sem, ↓reduceIte, Nat.reduceEqDiff, Nat.reduceAdd, Nat.reduceLeDiff, Nat.reduceLT, Nat.reduceMul, reduceCtorEq, Int.reduceEq, Int.reduceLT, Int.reduceLE, Int.reduceNeg, Int.reduceToNat, Int.reduceMul, Int.reduceAdd, Int.reduceSub, t0, t1, t5, t6, t7, t8, t9, t10, hz, ep, ep1, epn, eo', decide_eq_false eo', ezc, hM, esh] | simp (disch := (first | omega | (simp only [go_sem]; done) | (simp only [lens]; omega))) only [cds, t0, t1, t5, t6, t7, t8, t9, t10, hz, ep, ep1, epn, eo', decide_eq_false eo', ezc, hM, esh])))
                    refine ⟨(p + 1, k + 1), ?_⟩
                    ((try simp -implicitDefEqProofs only [later, laterE, laterD, laterR]); (repeat (first | simp -implicitDefEqProofs only [go_sem, ↓reduceIte, Nat.reduceEqDiff, Nat.reduceAdd, Nat.reduceLeDiff, Nat.reduceLT, Nat.reduceMul, reduceCtorEq, Int.reduceEq, Int.reduceLT, Int.reduceLE, Int.reduceNeg, Int.reduceToNat, Int.reduceMul, Int.reduceAdd, Int.reduceSub, t0, t1, t5, t6, t7, t8, t9, t10] | simp (disch := (first | omega | (simp only [go_sem]; done) | (simp only [lens]; omega))) only [cds, t0, t1, t5, t6, t7, t8, t9, t10])))
                    ((repeat' apply And.intro) <;> (first | omega | rfl | assumption | (congr 1 <;> omega) | skip))
                    try exact hno'
            · have exn : ¬ ((x.toNat : Nat) : Int) = (c0.toNat : Nat) := fun h => ex (UInt8.toNat_inj.1 (by omega))
              have ei1 : (((i : Nat) : Int) + 1).toNat = i + 1 := by omega
              have etn : ((s.length - t.length + 1 : Nat) : Int).toNat = s.length - t.length + 1 := by omega
              have ecn : UInt8.ofNat (Int.toNat ((c0.toNat : Nat) : Int)) = c0 := by simp
              ((try simp -implicitDefEqProofs only [later, laterE, laterD, laterR]); (repeat (first | simp -implicitDefEqProofs only [go_sem, ↓reduceIte, Nat.reduceEqDiff, Nat.reduceAdd, Nat.reduceLeDiff, Nat.reduceLT, Nat.reduceMul, reduceCtorEq, Int.reduceEq, Int.reduceLT, Int.reduceLE, Int.reduceNeg, Int.reduceToNat, Int.reduceMul, Int.reduceAdd, Int.reduceSub, t0, t1, t5, t6, t7, t8, t9, t10, hx, ei, ei1, etn] | simp (disch := (first | omega | (simp only [go_sem]; done) | (simp only [lens]; omega))) only [cds, t0, t1, t5, t6, t7, t8, t9, t10, hx, ei, ei1, etn])))
              refine AC.fn' (g := g128) rfl (by simp only [List.length_cons, List.length_nil, g128]; decide) ?_; simp only [g128]
              ((try simp -implicitDefEqProofs only [later, laterE, laterD, laterR]); (repeat (first | simp -implicitDefEqProofs only [go_sem, ↓reduceIte, Nat.reduceEqDiff, Nat.reduceAdd, Nat.reduceLeDiff, Nat.reduceLT, Nat.reduceMul, reduceCtorEq, Int.reduceEq, Int.reduceLT, Int.reduceLE, Int.reduceNeg, Int.reduceToNat, Int.reduceMul, Int.reduceAdd, Int.reduceSub, ecn] | simp (disch := (first | omega | (simp only [go_sem]; done) | (simp only [lens]; omega))) only [cds, ecn])))
              refine ⟨_, Sub.refl, ?_⟩
              rcases split_byte c0 ((s.take (s.length - t.length + 1)).drop (i + 1)) with hnb | ⟨l, r, hlr, hnl⟩
              · have q : idxS t s = -1 := idxS_none fun j hj ho => by
                  rcases Nat.lt_or_ge j i with c3 | c3
                  · exact hno j c3 ho
                  · have hj0 := occ_get ho 0 (by omega)
                    rw [Nat.add_zero, ht0] at hj0
                    rcases Nat.eq_or_lt_of_le c3 with c4 | c4
                    · subst c4; rw [hx] at hj0; exact ex (Option.some.inj hj0)
                    · refine hnb (List.mem_of_getElem? (i := j - (i + 1)) ?_)
                      rw [List.getElem?_drop, show i + 1 + (j - (i + 1)) = j from by omega, List.getElem?_take_of_lt (by omega)]
                      exact hj0
                rw [q] at hq
                rw [idxB_none hnb]
                ((try simp -implicitDefEqProofs only [later, laterE, laterD, laterR]); (repeat (first | simp -implicitDefEqProofs only [go_sem, ↓reduceIte, Nat.reduceEqDiff, Nat.reduceAdd, Nat.reduceLeDiff, Nat.reduceLT, Nat.reduceMul, reduceCtorEq, Int.reduceEq, Int.reduceLT, Int.reduceLE, Int.reduceNeg, Int.reduceToNat, Int.reduceMul, Int.reduceAdd, Int.reduceSub, t0, t1, t5, t6, t7, t8, t9, t10] | simp (disch := (first | omega | (simp only [go_sem]; done) | (simp only [lens]; omega))) only [cds, t0, t1, t5, t6, t7, t8, t9, t10])))
                exact ⟨_, Sub.refl, hq⟩
              · rw [hlr, idxB_some hnl]
                have hll : l.length + (r.length + 1) = s.length - t.length + 1 - (i + 1) := by
                  have := congrArg List.length hlr
                  rw [List.length_drop, List.length_take, List.length_append, List.length_cons] at this
                  omega
                obtain ⟨p, hpe⟩ : ∃ p, p = i + (l.length + 1) := ⟨_, rfl⟩
                have hgl : ∀ j, j < l.length + (r.length + 1) → s[i + 1 + j]? = (l ++ c0 :: r)[j]? := fun j hj => by
                  rw [← hlr, List.getElem?_drop, List.getElem?_take_of_lt (by omega)]
                have hnp : ∀ j, j < p → ¬ occ t s j := fun j hj ho => by
                  rcases Nat.lt_or_ge j i with c3 | c3
                  · exact hno j c3 ho
                  · have hj0 := occ_get ho 0 (by omega)
                    rw [Nat.add_zero, ht0] at hj0
                    rcases Nat.eq_or_lt_of_le c3 with c4 | c4
                    · subst c4; rw [hx] at hj0; exact ex (Option.some.inj hj0)
                    · have := hgl (j - (i + 1)) (by omega)
                      rw [show i + 1 + (j - (i + 1)) = j from by omega, hj0, List.getElem?_append_left (by omega)] at this
                      exact hnl (List.mem_of_getElem? this.symm)
                have hpi : ((i : Nat) : Int) + (((l.length : Nat) : Int) + 1) = ((p : Nat) : Int) := by omega
                have hpt : p < s.length - t.length + 1 := by omega
                ((try simp -implicitDefEqProofs only [later, laterE, laterD, laterR]); (repeat (first | simp -implicitDefEqProofs only [go_sem, ↓reduceIte, Nat.reduceEqDiff, Nat.reduceAdd, Nat.reduceLeDiff, Nat.reduceLT, Nat.reduceMul, reduceCtorEq, Int.reduceEq, Int.reduceLT, Int.reduceLE, Int.reduceNeg, Int.reduceToNat, Int.reduceMul, Int.reduceAdd, Int.reduceSub, t0, t1, t5, t6, t7, t8, t9, t10, hpi] | simp (disch := (first | omega | (simp only [go_sem]; done) | (simp only [lens]; omega))) only [cds, t0, t1, t5, t6, t7, t8, t9, t10, hpi])))
                have hpl : p + t.length ≤ s.length := by omega
                have ep : ((p : Nat) : Int).toNat = p := by omega
                have ep1 : (((p : Nat) : Int) + 1).toNat = p + 1 := by omega
                have epn : (((p : Nat) : Int) + ((t.length : Nat) : Int)).toNat = p + t.length := by omega
                obtain ⟨z, hz⟩ : ∃ z, s[p + 1]? = some z := ⟨s[p + 1], List.getElem?_eq_getElem (by omega)⟩
                have hbz := z.toNat_lt
                by_cases eo : occ t s p
                · have q : idxS t s = (p : Nat) := idxS_at hpl eo hnp
                  have ez : z = c1 := by
                    have := occ_get eo 1 (by omega)
                    rw [hz, ht1] at this; exact Option.some.inj this
                  subst ez
                  have eo' : (s.take (p + t.length)).drop p = t := eo
                  rw [q] at hq
                  ((try simp -implicitDefEqProofs only [later, laterE, laterD, laterR]); (repeat (first | simp -implicitDefEqProofs only [go_sem, ↓reduceIte, Nat.reduceEqDiff, Nat.reduceAdd, Nat.reduceLeDiff, Nat.reduceLT, Nat.reduceMul, reduceCtorEq, Int.reduceEq, Int.reduceLT, Int.reduceLE, Int.reduceNeg, Int.reduceToNat, Int.reduceMul, Int.reduceAdd, Int.reduceSub, t0, t1, t5, t6, t7, t8, t9, t10, hpi, hz, ep, ep1, epn, eo'] | simp (disch := (first | omega | (simp only [go_sem]; done) | (simp only [lens]; omega))) only [cds, t0, t1, t5, t6, t7, t8, t9, t10, hpi, hz, ep, ep1, epn, eo'])))
                  exact ⟨_, Sub.refl, hq⟩
                · have eo' : ¬ (s.take (p + t.length)).drop p = t := eo
                  have hno' : ∀ j, j < p + 1 → ¬ occ t s j := fun j hj => by
                    rcases Nat.lt_or_ge j p with c | c
                    · exact hnp j c
                    · obtain rfl : j = p := by omega
                      exact eo
                  have hrk : idxS t (s.drop (p + 1)) = if idxS t s = -1 then -1 else idxS t s - ((p : Nat) + 1) := idxS_after hno'
                  have epd : (s.take s.length).drop (p + 1) = s.drop (p + 1) := by rw [List.take_length]
                  have esh : ishr .i64 (((p : Nat) : Int) + 1) 4 = ((p + 1) / 16 : Nat) := by
                    show (((p : Nat) : Int) + 1).fdiv (2 ^ (min 4 64)) = _
                    rw [Int.fdiv_eq_ediv_of_nonneg _ (by decide), show ((2 : Int) ^ (min 4 64)) = 16 from by decide]; omega
                  have ezc : ((z.toNat : Nat) : Int) = (c1.toNat : Nat) ∨ ¬ ((z.toNat : Nat) : Int) = (c1.toNat : Nat) := Classical.em _
                  by_cases ck : (4 : Int) + ((p + 1) / 16 : Nat) ≤ ((k : Nat) : Int) + 1
                  · by_cases cl : p + 1 < s.length - t.length + 1
                    · have res : AC pg (.fn 142) [.str (s.drop (p + 1)), .str t] h' fun v h'' => v = .int .i64 (idxS t (s.drop (p + 1))) ∧ h'' = h' :=
                        rk_ac _ _ (by rw [List.length_drop]; omega) (by omega) (by rw [List.length_drop]; omega) ⟨rfl, rfl⟩
                      rcases ezc with ezc | ezc
                      all_goals
                        ((try simp -implicitDefEqProofs only [later, laterE, laterD, laterR]); (repeat (first | simp -implicitDefEqProofs only [go_sem, ↓reduceIte, Nat.reduceEqDiff, Nat.reduceAdd, Nat.reduceLeDiff, Nat.reduceLT, Nat.reduceMul, reduceCtorEq, Int.reduceEq, Int.reduceLT, Int.reduceLE, Int.reduceNeg, Int.reduceToNat, Int.reduceMul, Int.reduceAdd, Int.reduceSub, t0, t1, t5, t6, t7, t8, t9, t10, hpi, hz, ep, ep1, epn, eo', decide_eq_false eo', ezc, hM, esh, epd] | simp (disch := (first | omega | (simp only [go_sem]; done) | (simp only [lens]; omega))) only [cds, t0, t1, t5, t6, t7, t8, t9, t10, hpi, hz, ep, ep1, epn, eo', decide_eq_false eo', ezc, hM, esh, epd])))
                        refine AC.mono _ _ _ _ _ (fun v h'' hv => ?_) res
                        obtain ⟨rfl, rfl⟩ := hv
                        rw [hrk]
                        by_cases en : idxS t s = -1
                        · rw [if_pos en]
                          rw [en] at hq
                          ((try simp -implicitDefEqProofs only [later, laterE, laterD, laterR]); (repeat (first | simp -implicitDefEqProofs only [go_sem, ↓reduceIte, Nat.reduceEqDiff, Nat.reduceAdd, Nat.reduceLeDiff, Nat.reduceLT, Nat.reduceMul, reduceCtorEq, Int.reduceEq, Int.reduceLT, Int.reduceLE, Int.reduceNeg, Int.reduceToNat, Int.reduceMul, Int.reduceAdd, Int.reduceSub] | simp (disch := (first | omega | (simp only [go_sem]; done) | (simp only [lens]; omega))) only [cds])))
                          exact ⟨_, Sub.refl, hq⟩
                        · rw [if_neg en]
                          have hge : ((p : Nat) : Int) + 1 ≤ idxS t s ∧ idxS t s ≤ s.length := idxS_after' hno' en
                          ((try simp -implicitDefEqProofs only [later, laterE, laterD, laterR]); (repeat (first | simp -implicitDefEqProofs only [go_sem, ↓reduceIte, Nat.reduceEqDiff, Nat.reduceAdd, Nat.reduceLeDiff, Nat.reduceLT, Nat.reduceMul, reduceCtorEq, Int.reduceEq, Int.reduceLT, Int.reduceLE, Int.reduceNeg, Int.reduceToNat, Int.reduceMul, Int.reduceAdd, Int.reduceSub] | simp (disch := (first | omega | (simp only [go_sem]; done) | (simp only [lens]; omega))) only [cds])))
                          refine ⟨_, Sub.refl, ?_⟩
                          rw [show ((p : Nat) : Int) + 1 + (idxS t s - (((p : Nat) : Int) + 1)) = idxS t s from by omega]
                          exact hq
                    · rcases ezc with ezc | ezc
                      all_goals
                        ((try simp -implicitDefEqProofs only [later, laterE, laterD, laterR]); (repeat (first | simp -implicitDefEqProofs only [go_sem, ↓reduceIte, Nat.reduceEqDiff, Nat.reduceAdd, Nat.reduceLeDiff, Nat.reduceLT, Nat.reduceMul, reduceCtorEq, Int.reduceEq, Int.reduceLT, Int.reduceLE, Int.reduceNeg, Int.reduceToNat, Int.reduceMul, Int.reduceAdd, Int.reduceSub, t0, t1, t5, t6, t7, t8, t9, t10, hpi, hz, ep, ep1, epn, eo', decide_eq_false eo', ezc, hM, esh] | simp (disch := (first | omega | (simp only [go_sem]; done) | (simp only [lens]; omega))) only [cds, t0, t1, t5, t6, t7, t8, t9, t10, hpi, hz, ep, ep1, epn, eo', decide_eq_false eo', ezc, hM, esh])))
                        refine ⟨(p + 1, k + 1), ?_⟩
                        ((try simp -implicitDefEqProofs only [later, laterE, laterD, laterR]); (repeat (first | simp -implicitDefEqProofs only [go_sem, ↓reduceIte, Nat.reduceEqDiff, Nat.reduceAdd, Nat.reduceLeDiff, Nat.reduceLT, Nat.reduceMul, reduceCtorEq, Int.reduceEq, Int.reduceLT, Int.reduceLE, Int.reduceNeg, Int.reduceToNat, Int.reduceMul, Int.reduceAdd, Int.reduceSub, t0, t1, t5, t6, t7, t8, t9, t10, hpi] | simp (disch := (first | omega | (simp only [go_sem]; done) | (simp only [lens]; omega))) only [cds, t0, t1, t5, t6, t7, t8, t9, t10, hpi])))
                        ((repeat' apply And.intro) <;> (first | omega | rfl | assumption | (congr 1 <;> omega) | skip))
                        try exact hno'
                  · rcases ezc with ezc | ezc
                    all_goals
                      ((try simp -implicitDefEqProofs only [later, laterE, laterD, laterR]); (repeat (first | simp -implicitDefEqProofs only [go_sem, ↓reduceIte, Nat.reduceEqDiff, Nat.reduceAdd, Nat.reduceLeDiff, Nat.reduceLT, Nat.reduceMul, reduceCtorEq, Int.reduceEq, Int.reduceLT, Int.reduceLE, Int.reduceNeg, Int.reduceToNat, Int.reduceMul, Int.reduceAdd, Int.reduceSub, t0, t1, t5, t6, t7, t8, t9, t10, hpi, hz, ep, ep1, epn, eo', decide_eq_false eo', ezc, hM, esh] | simp (disch := (first | omega | (simp only [go_sem]; done) | (simp only [lens]; omega))) only [cds, t0, t1, t5, t6, t7, t8, t9, t10, hpi, hz, ep, ep1, epn, eo', decide_eq_false eo', ezc, hM, esh])))
                      refine ⟨(p + 1, k + 1), ?_⟩
                      ((try simp -implicitDefEqProofs only [later, laterE, laterD, laterR]); (repeat (first | simp -implicitDefEqProofs only [go_sem, ↓reduceIte, Nat.reduceEqDiff, Nat.reduceAdd, Nat.reduceLeDiff, Nat.reduceLT, Nat.reduceMul, reduceCtorEq, Int.reduceEq, Int.reduceLT, Int.reduceLE, Int.reduceNeg, Int.reduceToNat, Int.reduceMul, Int.reduceAdd, Int.reduceSub, t0, t1, t5, t6, t7, t8, t9, t10, hpi] | simp (disch := (first | omega | (simp only [go_sem]; done) | (simp only [lens]; omega))) only [cds, t0, t1, t5, t6, t7, t8, t9, t10, hpi])))
                      ((repeat' apply And.intro) <;> (first | omega | rfl | assumption | (congr 1 <;> omega) | skip))
                      try exact hno'
          · have q : idxS t s = -1 := idxS_none fun j hj => hno j (by omega)
            rw [q] at hq
            ((try simp -implicitDefEqProofs only [later, laterE, laterD, laterR]); (repeat (first | simp -implicitDefEqProofs only [go_sem, ↓reduceIte, Nat.reduceEqDiff, Nat.reduceAdd, Nat.reduceLeDiff, Nat.reduceLT, Nat.reduceMul, reduceCtorEq, Int.reduceEq, Int.reduceLT, Int.reduceLE, Int.reduceNeg, Int.reduceToNat, Int.reduceMul, Int.reduceAdd, Int.reduceSub, t0, t1, t5, t6, t7, t8, t9, t10] | simp (disch := (first | omega | (simp only [go_sem]; done) | (simp only [lens]; omega))) only [cds, t0, t1, t5, t6, t7, t8, t9, t10])))
            exact ⟨_, Sub.refl, hq⟩
theorem contains_ac (s t : List UInt8) (hs : s.length ≤ 64) (h2 : 2 ≤ t.length) (htl : t.length < 1099511627776) {m : Int} (hM : h 9 = some (.cells [.int .i64 m] true)) (hq : Q (.bool (decide (0 ≤ idxS t s))) h) : AC pg (.fn 113) [.str s, .str t] h Q := by
  refine AC.fn' (g := g113) rfl (by simp only [List.length_cons, List.length_nil, g113]; decide) ?_; simp only [g113]
  ((try simp -implicitDefEqProofs only [later, laterE, laterD, laterR]); (repeat (first | simp -implicitDefEqProofs only [go_sem, ↓reduceIte, Nat.reduceEqDiff, Nat.reduceAdd, Nat.reduceLeDiff, Nat.reduceLT, Nat.reduceMul, reduceCtorEq, Int.reduceEq, Int.reduceLT, Int.reduceLE, Int.reduceNeg, Int.reduceToNat, Int.reduceMul, Int.reduceAdd, Int.reduceSub] | simp (disch := (first | omega | (simp only [go_sem]; done) | (simp only [lens]; omega))) only [cds])))
  refine AC.fn' (g := g127) rfl (by simp only [List.length_cons, List.length_nil, g127]; decide) ?_; simp only [g127]
  ((try simp -implicitDefEqProofs only [later, laterE, laterD, laterR]); (repeat (first | simp -implicitDefEqProofs only [go_sem, ↓reduceIte, Nat.reduceEqDiff, Nat.reduceAdd, Nat.reduceLeDiff, Nat.reduceLT, Nat.reduceMul, reduceCtorEq, Int.reduceEq, Int.reduceLT, Int.reduceLE, Int.reduceNeg, Int.reduceToNat, Int.reduceMul, Int.reduceAdd, Int.reduceSub] | simp (disch := (first | omega | (simp only [go_sem]; done) | (simp only [lens]; omega))) only [cds])))
  refine index_ac s t hs h2 htl hM ?_
  ((try simp -implicitDefEqProofs only [later, laterE, laterD, laterR]); (repeat (first | simp -implicitDefEqProofs only [go_sem, ↓reduceIte, Nat.reduceEqDiff, Nat.reduceAdd, Nat.reduceLeDiff, Nat.reduceLT, Nat.reduceMul, reduceCtorEq, Int.reduceEq, Int.reduceLT, Int.reduceLE, Int.reduceNeg, Int.reduceToNat, Int.reduceMul, Int.reduceAdd, Int.reduceSub] | simp (disch := (first | omega | (simp only [go_sem]; done) | (simp only [lens]; omega))) only [cds])))
  refine ⟨_, Sub.refl, ?_⟩
  ((try simp -implicitDefEqProofs only [later, laterE, laterD, laterR]); (repeat (first | simp -implicitDefEqProofs only [go_sem, ↓reduceIte, Nat.reduceEqDiff, Nat.reduceAdd, Nat.reduceLeDiff, Nat.reduceLT, Nat.reduceMul, reduceCtorEq, Int.reduceEq, Int.reduceLT, Int.reduceLE, Int.reduceNeg, Int.reduceToNat, Int.reduceMul, Int.reduceAdd, Int.reduceSub] | simp (disch := (first | omega | (simp only [go_sem]; done) | (simp only [lens]; omega))) only [cds])))
  exact ⟨_, Sub.refl, hq⟩
end Go.Proofs.YtipnnfmgecbefaaGreatDoor
