/- Walks that serve several seats: numbers into texts. -/
import Derived.Test.YtijipnkdabdioabGreatDoorLFmt
set_option linter.unusedSimpArgs false
set_option linter.unusedVariables false
namespace Go.Proofs.YtijipnkdabdioabGreatDoor
open Mir
variable {h : H} {Q : V → H → Prop}
theorem HasPow.add {b : Nat} {o : AObj} (hG : HasPow h) (hb : h b = none) : HasPow (hadd h b o) := hadd_some hb hG
theorem HasPow.put {b : Nat} {o : AObj} (hG : HasPow h) (hb : ∃ cs, h b = some (.cells cs false)) : HasPow (hadd h b o) := by
  obtain ⟨cs, hb⟩ := hb
  unfold HasPow at *
  rw [hadd_ne]; exact hG
  intro e; rw [e, hb] at hG; cases hG
theorem dec_fits (u : Nat) (h : u < 18446744073709551616) : ∃ k, k ≤ 20 ∧ (dec u).length = k ∧ u < 10 ^ k := by
  obtain ⟨j, e, _, h2⟩ := dec_len u
  have : (dec u).length ≤ 19 + 1 := dec_length_le (by omega)
  exact ⟨j + 1, by rw [e, pad_len] at this; exact this, by rw [e, pad_len], h2⟩
theorem pad_dec {u k : Nat} (h : (dec u).length = k) : pad k u = dec u := by
  obtain ⟨j, e, _, _⟩ := dec_len u
  rw [e, pad_len] at h
  subst h; exact e.symm
def zero24 : List V := List.replicate 24 (.int .u8 0)
theorem itoa_row (o k u : Nat) (h : o + k ≤ 24) : (zero24.take o ++ bytesIn (pad k u) ++ zero24.drop (o + k)).length = 24 := by
  rw [List.length_append, List.length_append, bytesIn_len, pad_len, List.length_take, List.length_drop, zero24, List.length_replicate]; omega
theorem row_pos {k u : Nat} (hk : k ≤ 20) (hd : (dec u).length = k) : bytesOf (List.take k (List.drop 1 (List.take 1 zero24 ++ bytesIn (pad k u) ++ List.drop (1 + k) zero24))) = some (dec u) := by
  have e : List.drop 1 (List.take 1 zero24 ++ bytesIn (pad k u) ++ List.drop (1 + k) zero24) = bytesIn (pad k u) ++ List.drop (1 + k) zero24 := by
    rw [List.append_assoc]; rfl
  have hl : (bytesIn (pad k u)).length = k := by rw [bytesIn_len, pad_len]
  rw [e, List.take_append_of_le_length (by omega), List.take_of_length_le (by omega), bytesOf_in, pad_dec hd]
theorem row_neg {k u : Nat} (hk : k ≤ 20) (hd : (dec u).length = k) : (V.int IntKind.u8 45 :: List.drop 1 (List.take 1 zero24 ++ bytesIn (pad k u) ++ List.drop (1 + k) zero24)).length = 24 ∧
    bytesOf (List.take (1 + k) (V.int IntKind.u8 45 :: List.drop 1 (List.take 1 zero24 ++ bytesIn (pad k u) ++ List.drop (1 + k) zero24))) = some (45 :: dec u) := by
  have hl := itoa_row 1 k u (by omega)
  have h1 := row_pos hk hd
  constructor
  · rw [List.length_cons, List.length_drop]; omega
  · rw [Nat.add_comm 1 k, List.take_succ_cons]
    rw [Nat.add_comm 1 k] at h1
    simp only [bytesOf, h1]
    rfl
theorem itoa_ac (n : Int) (h1 : -9223372036854775808 ≤ n) (h2 : n < 9223372036854775808) (hG : HasPow h) (hq : Q (.str (itoa n)) h) : AC pg (.fn 30) [.int .i64 n] h Q := by
  refine AC.fn' (g := g30) rfl (by simp only [List.length_cons, List.length_nil, g30]; decide) ?_; simp only [g30]
  ((try simp -implicitDefEqProofs only [later, laterE, laterD, laterR]); (repeat (first | simp -implicitDefEqProofs only [go_sem, ↓reduceIte, Nat.reduceEqDiff, Nat.reduceAdd, Nat.reduceLeDiff, Nat.reduceLT, Nat.reduceMul, reduceCtorEq, Int.reduceEq, Int.reduceLT, Int.reduceLE, Int.reduceNeg, Int.reduceToNat, Int.reduceMul, Int.reduceAdd, Int.reduceSub] | simp (disch := (first | omega | (simp only [go_sem]; done) | (simp only [lens]; omega))) only [cds])))
  refine AC.fn' (g := g46) rfl (by simp only [List.length_cons, List.length_nil, g46]; decide) ?_; simp only [g46]
  ((try simp -implicitDefEqProofs only [later, laterE, laterD, laterR]); (repeat (first | simp -implicitDefEqProofs only [go_sem, ↓reduceIte, Nat.reduceEqDiff, Nat.reduceAdd, Nat.reduceLeDiff, Nat.reduceLT, Nat.reduceMul, reduceCtorEq, Int.reduceEq, Int.reduceLT, Int.reduceLE, Int.reduceNeg, Int.reduceToNat, Int.reduceMul, Int.reduceAdd, Int.reduceSub] | simp (disch := (first | omega | (simp only [go_sem]; done) | (simp only [lens]; omega))) only [cds])))
  refine AC.fn' (g := g58) rfl (by simp only [List.length_cons, List.length_nil, g58]; decide) ?_; simp only [g58]
  by_cases c1 : n < 100
  · by_cases c2 : 0 ≤ n
    · obtain ⟨n, rfl⟩ := Int.eq_ofNat_of_zero_le c2
      rw [itoa_nn] at hq
      ((try simp -implicitDefEqProofs only [later, laterE, laterD, laterR]); (repeat (first | simp -implicitDefEqProofs only [go_sem, ↓reduceIte, Nat.reduceEqDiff, Nat.reduceAdd, Nat.reduceLeDiff, Nat.reduceLT, Nat.reduceMul, reduceCtorEq, Int.reduceEq, Int.reduceLT, Int.reduceLE, Int.reduceNeg, Int.reduceToNat, Int.reduceMul, Int.reduceAdd, Int.reduceSub] | simp (disch := (first | omega | (simp only [go_sem]; done) | (simp only [lens]; omega))) only [cds])))
      refine small_ac n (by omega) ?_
      ((try simp -implicitDefEqProofs only [later, laterE, laterD, laterR]); (repeat (first | simp -implicitDefEqProofs only [go_sem, ↓reduceIte, Nat.reduceEqDiff, Nat.reduceAdd, Nat.reduceLeDiff, Nat.reduceLT, Nat.reduceMul, reduceCtorEq, Int.reduceEq, Int.reduceLT, Int.reduceLE, Int.reduceNeg, Int.reduceToNat, Int.reduceMul, Int.reduceAdd, Int.reduceSub] | simp (disch := (first | omega | (simp only [go_sem]; done) | (simp only [lens]; omega))) only [cds])))
      refine ⟨_, Sub.refl, ?_⟩
      ((try simp -implicitDefEqProofs only [later, laterE, laterD, laterR]); (repeat (first | simp -implicitDefEqProofs only [go_sem, ↓reduceIte, Nat.reduceEqDiff, Nat.reduceAdd, Nat.reduceLeDiff, Nat.reduceLT, Nat.reduceMul, reduceCtorEq, Int.reduceEq, Int.reduceLT, Int.reduceLE, Int.reduceNeg, Int.reduceToNat, Int.reduceMul, Int.reduceAdd, Int.reduceSub] | simp (disch := (first | omega | (simp only [go_sem]; done) | (simp only [lens]; omega))) only [cds])))
      refine ⟨_, Sub.refl, ?_⟩
      ((try simp -implicitDefEqProofs only [later, laterE, laterD, laterR]); (repeat (first | simp -implicitDefEqProofs only [go_sem, ↓reduceIte, Nat.reduceEqDiff, Nat.reduceAdd, Nat.reduceLeDiff, Nat.reduceLT, Nat.reduceMul, reduceCtorEq, Int.reduceEq, Int.reduceLT, Int.reduceLE, Int.reduceNeg, Int.reduceToNat, Int.reduceMul, Int.reduceAdd, Int.reduceSub] | simp (disch := (first | omega | (simp only [go_sem]; done) | (simp only [lens]; omega))) only [cds])))
      exact ⟨_, Sub.refl, hq⟩
    · ((try simp -implicitDefEqProofs only [later, laterE, laterD, laterR]); (repeat (first | simp -implicitDefEqProofs only [go_sem, ↓reduceIte, Nat.reduceEqDiff, Nat.reduceAdd, Nat.reduceLeDiff, Nat.reduceLT, Nat.reduceMul, reduceCtorEq, Int.reduceEq, Int.reduceLT, Int.reduceLE, Int.reduceNeg, Int.reduceToNat, Int.reduceMul, Int.reduceAdd, Int.reduceSub, wrap_u64m] | simp (disch := (first | omega | (simp only [go_sem]; done) | (simp only [lens]; omega))) only [cds, wrap_u64m])))
      intro b hb
      ((try simp -implicitDefEqProofs only [later, laterE, laterD, laterR]); (repeat (first | simp -implicitDefEqProofs only [go_sem, ↓reduceIte, Nat.reduceEqDiff, Nat.reduceAdd, Nat.reduceLeDiff, Nat.reduceLT, Nat.reduceMul, reduceCtorEq, Int.reduceEq, Int.reduceLT, Int.reduceLE, Int.reduceNeg, Int.reduceToNat, Int.reduceMul, Int.reduceAdd, Int.reduceSub, wrap_u64m] | simp (disch := (first | omega | (simp only [go_sem]; done) | (simp only [lens]; omega))) only [cds, wrap_u64m])))
      obtain ⟨u, hu⟩ : ∃ u, u = n.natAbs := ⟨_, rfl⟩
      rw [show (0 - n % 18446744073709551616) % 18446744073709551616 = ((u : Nat) : Int) from by omega]
      rw [itoa_neg (by omega), ← hu] at hq
      refine numDigits_ac u (by omega) (by omega) (hG.add hb) ?_
      obtain ⟨k, hk, hkl, hku⟩ := dec_fits u (by omega)
      rw [hkl]
      have ek : (1 + (k : Int)).toNat = 1 + k := by omega
      ((try simp -implicitDefEqProofs only [later, laterE, laterD, laterR]); (repeat (first | simp -implicitDefEqProofs only [go_sem, ↓reduceIte, Nat.reduceEqDiff, Nat.reduceAdd, Nat.reduceLeDiff, Nat.reduceLT, Nat.reduceMul, reduceCtorEq, Int.reduceEq, Int.reduceLT, Int.reduceLE, Int.reduceNeg, Int.reduceToNat, Int.reduceMul, Int.reduceAdd, Int.reduceSub, wrap_u64m, ek, Nat.add_sub_cancel_left] | simp (disch := (first | omega | (simp only [go_sem]; done) | (simp only [lens]; omega))) only [cds, wrap_u64m, ek, Nat.add_sub_cancel_left])))
      refine format10_ac u k b 1 zero24 ?_ (by show 1 + k ≤ 24; omega) hku (by omega) (by omega) ?_; · exact hadd_same
      have hl := itoa_row 1 k u (by omega)
      ((try simp -implicitDefEqProofs only [later, laterE, laterD, laterR]); (repeat (first | simp -implicitDefEqProofs only [go_sem, ↓reduceIte, Nat.reduceEqDiff, Nat.reduceAdd, Nat.reduceLeDiff, Nat.reduceLT, Nat.reduceMul, reduceCtorEq, Int.reduceEq, Int.reduceLT, Int.reduceLE, Int.reduceNeg, Int.reduceToNat, Int.reduceMul, Int.reduceAdd, Int.reduceSub, wrap_u64m, hl, ek, Nat.add_sub_cancel_left] | simp (disch := (first | omega | (simp only [go_sem]; done) | (simp only [lens]; omega))) only [cds, wrap_u64m, hl, ek, Nat.add_sub_cancel_left])))
      obtain ⟨n1, n2⟩ := row_neg hk hkl
      generalize (V.int IntKind.u8 45 :: List.drop 1 (List.take 1 zero24 ++ bytesIn (pad k u) ++ List.drop (1 + k) zero24)) = row at *
      ((try simp -implicitDefEqProofs only [later, laterE, laterD, laterR]); (repeat (first | simp -implicitDefEqProofs only [go_sem, ↓reduceIte, Nat.reduceEqDiff, Nat.reduceAdd, Nat.reduceLeDiff, Nat.reduceLT, Nat.reduceMul, reduceCtorEq, Int.reduceEq, Int.reduceLT, Int.reduceLE, Int.reduceNeg, Int.reduceToNat, Int.reduceMul, Int.reduceAdd, Int.reduceSub, ek, List.drop_zero, Nat.sub_zero] | simp (disch := (first | omega | (simp only [go_sem]; done) | (simp only [lens]; omega))) only [cds, ek, List.drop_zero, Nat.sub_zero])))
      rw [n2]
      ((try simp -implicitDefEqProofs only [later, laterE, laterD, laterR]); (repeat (first | simp -implicitDefEqProofs only [go_sem, ↓reduceIte, Nat.reduceEqDiff, Nat.reduceAdd, Nat.reduceLeDiff, Nat.reduceLT, Nat.reduceMul, reduceCtorEq, Int.reduceEq, Int.reduceLT, Int.reduceLE, Int.reduceNeg, Int.reduceToNat, Int.reduceMul, Int.reduceAdd, Int.reduceSub] | simp (disch := (first | omega | (simp only [go_sem]; done) | (simp only [lens]; omega))) only [cds])))
      refine ⟨_, Sub.put Sub.refl hb, ?_⟩
      ((try simp -implicitDefEqProofs only [later, laterE, laterD, laterR]); (repeat (first | simp -implicitDefEqProofs only [go_sem, ↓reduceIte, Nat.reduceEqDiff, Nat.reduceAdd, Nat.reduceLeDiff, Nat.reduceLT, Nat.reduceMul, reduceCtorEq, Int.reduceEq, Int.reduceLT, Int.reduceLE, Int.reduceNeg, Int.reduceToNat, Int.reduceMul, Int.reduceAdd, Int.reduceSub] | simp (disch := (first | omega | (simp only [go_sem]; done) | (simp only [lens]; omega))) only [cds])))
      refine ⟨_, Sub.refl, ?_⟩
      ((try simp -implicitDefEqProofs only [later, laterE, laterD, laterR]); (repeat (first | simp -implicitDefEqProofs only [go_sem, ↓reduceIte, Nat.reduceEqDiff, Nat.reduceAdd, Nat.reduceLeDiff, Nat.reduceLT, Nat.reduceMul, reduceCtorEq, Int.reduceEq, Int.reduceLT, Int.reduceLE, Int.reduceNeg, Int.reduceToNat, Int.reduceMul, Int.reduceAdd, Int.reduceSub] | simp (disch := (first | omega | (simp only [go_sem]; done) | (simp only [lens]; omega))) only [cds])))
      exact ⟨_, Sub.refl, hq⟩
  · ((try simp -implicitDefEqProofs only [later, laterE, laterD, laterR]); (repeat (first | simp -implicitDefEqProofs only [go_sem, ↓reduceIte, Nat.reduceEqDiff, Nat.reduceAdd, Nat.reduceLeDiff, Nat.reduceLT, Nat.reduceMul, reduceCtorEq, Int.reduceEq, Int.reduceLT, Int.reduceLE, Int.reduceNeg, Int.reduceToNat, Int.reduceMul, Int.reduceAdd, Int.reduceSub, wrap_u64m] | simp (disch := (first | omega | (simp only [go_sem]; done) | (simp only [lens]; omega))) only [cds, wrap_u64m])))
    intro b hb
    ((try simp -implicitDefEqProofs only [later, laterE, laterD, laterR]); (repeat (first | simp -implicitDefEqProofs only [go_sem, ↓reduceIte, Nat.reduceEqDiff, Nat.reduceAdd, Nat.reduceLeDiff, Nat.reduceLT, Nat.reduceMul, reduceCtorEq, Int.reduceEq, Int.reduceLT, Int.reduceLE, Int.reduceNeg, Int.reduceToNat, Int.reduceMul, Int.reduceAdd, Int.reduceSub, wrap_u64m] | simp (disch := (first | omega | (simp only [go_sem]; done) | (simp only [lens]; omega))) only [cds, wrap_u64m])))
    obtain ⟨u, rfl⟩ := Int.eq_ofNat_of_zero_le (show 0 ≤ n by omega)
    rw [itoa_nn] at hq
    rw [show (u : Int) % 18446744073709551616 = ((u : Nat) : Int) from by omega]
    refine numDigits_ac u (by omega) (by omega) (hG.add hb) ?_
    obtain ⟨k, hk, hkl, hku⟩ := dec_fits u (by omega)
    rw [hkl]
    have ek : (1 + (k : Int)).toNat = 1 + k := by omega
    ((try simp -implicitDefEqProofs only [later, laterE, laterD, laterR]); (repeat (first | simp -implicitDefEqProofs only [go_sem, ↓reduceIte, Nat.reduceEqDiff, Nat.reduceAdd, Nat.reduceLeDiff, Nat.reduceLT, Nat.reduceMul, reduceCtorEq, Int.reduceEq, Int.reduceLT, Int.reduceLE, Int.reduceNeg, Int.reduceToNat, Int.reduceMul, Int.reduceAdd, Int.reduceSub, wrap_u64m, ek, Nat.add_sub_cancel_left] | simp (disch := (first | omega | (simp only [go_sem]; done) | (simp only [lens]; omega))) only [cds, wrap_u64m, ek, Nat.add_sub_cancel_left])))
    refine format10_ac u k b 1 zero24 ?_ (by show 1 + k ≤ 24; omega) hku (by omega) (by omega) ?_; · exact hadd_same
    have hl := itoa_row 1 k u (by omega)
    ((try simp -implicitDefEqProofs only [later, laterE, laterD, laterR]); (repeat (first | simp -implicitDefEqProofs only [go_sem, ↓reduceIte, Nat.reduceEqDiff, Nat.reduceAdd, Nat.reduceLeDiff, Nat.reduceLT, Nat.reduceMul, reduceCtorEq, Int.reduceEq, Int.reduceLT, Int.reduceLE, Int.reduceNeg, Int.reduceToNat, Int.reduceMul, Int.reduceAdd, Int.reduceSub, wrap_u64m, hl, ek, Nat.add_sub_cancel_left] | simp (disch := (first | omega | (simp only [go_sem]; done) | (simp only [lens]; omega))) only [cds, wrap_u64m, hl, ek, Nat.add_sub_cancel_left])))
    rw [row_pos hk hkl]
    ((try simp -implicitDefEqProofs only [later, laterE, laterD, laterR]); (repeat (first | simp -implicitDefEqProofs only [go_sem, ↓reduceIte, Nat.reduceEqDiff, Nat.reduceAdd, Nat.reduceLeDiff, Nat.reduceLT, Nat.reduceMul, reduceCtorEq, Int.reduceEq, Int.reduceLT, Int.reduceLE, Int.reduceNeg, Int.reduceToNat, Int.reduceMul, Int.reduceAdd, Int.reduceSub] | simp (disch := (first | omega | (simp only [go_sem]; done) | (simp only [lens]; omega))) only [cds])))
    refine ⟨_, Sub.put Sub.refl hb, ?_⟩
    ((try simp -implicitDefEqProofs only [later, laterE, laterD, laterR]); (repeat (first | simp -implicitDefEqProofs only [go_sem, ↓reduceIte, Nat.reduceEqDiff, Nat.reduceAdd, Nat.reduceLeDiff, Nat.reduceLT, Nat.reduceMul, reduceCtorEq, Int.reduceEq, Int.reduceLT, Int.reduceLE, Int.reduceNeg, Int.reduceToNat, Int.reduceMul, Int.reduceAdd, Int.reduceSub] | simp (disch := (first | omega | (simp only [go_sem]; done) | (simp only [lens]; omega))) only [cds])))
    refine ⟨_, Sub.refl, ?_⟩
    ((try simp -implicitDefEqProofs only [later, laterE, laterD, laterR]); (repeat (first | simp -implicitDefEqProofs only [go_sem, ↓reduceIte, Nat.reduceEqDiff, Nat.reduceAdd, Nat.reduceLeDiff, Nat.reduceLT, Nat.reduceMul, reduceCtorEq, Int.reduceEq, Int.reduceLT, Int.reduceLE, Int.reduceNeg, Int.reduceToNat, Int.reduceMul, Int.reduceAdd, Int.reduceSub] | simp (disch := (first | omega | (simp only [go_sem]; done) | (simp only [lens]; omega))) only [cds])))
    exact ⟨_, Sub.refl, hq⟩
end Go.Proofs.YtijipnkdabdioabGreatDoor
