/- The disk, 15: DiskNames. -/
import Derived.Test.YtijipnkdabdioaaD9
set_option linter.unusedSimpArgs false
set_option linter.unusedVariables false
namespace Go.Proofs.Ytijipnkdabdioaa
open Mir
variable {h : H} {Q : V → H → Prop}
theorem nameOk_split {s : List UInt8} (h : nameOk s = true) : s ≠ [] ∧ s.length ≤ 40 ∧ s.all okB = true := by
  unfold nameOk at h
  simp only [Bool.and_eq_true, decide_eq_true_eq] at h
  exact ⟨h.1.1, h.1.2, h.2⟩
theorem names_both {a b : List UInt8} (ha : nameOk a = true) (hb : nameOk b = true) : nameOk (a ++ b) = decide ((a.length : Int) + b.length ≤ 40) := by
  obtain ⟨a1, a2, a3⟩ := nameOk_split ha
  obtain ⟨b1, b2, b3⟩ := nameOk_split hb
  unfold nameOk
  rw [List.all_append, a3, b3, decide_eq_true (by simp [a1] : a ++ b ≠ []), List.length_append]
  simp only [Bool.and_self, Bool.and_true, Bool.true_and, decide_eq_decide]
  omega
theorem names_odd {a b : List UInt8} {c : UInt8} (h : okB c = false) : nameOk (a ++ [c] ++ b) = false := by
  unfold nameOk
  rw [List.all_append, List.all_append]
  simp [h]
theorem diskNames_ac (s1 s2 : List UInt8) (c : UInt8) (hq : Q (.bool true) h) : AC pg (.fn 3) [.str s1, .str s2, .int .u8 (c.toNat : Nat)] h Q := by
  refine AC.fn' (g := g3) rfl (by simp only [List.length_cons, List.length_nil, g3]; decide) ?_; simp only [g3]
  ((try simp -implicitDefEqProofs only [later, laterE, laterD, laterR]); (repeat (first | simp -implicitDefEqProofs only [go_sem, ↓reduceIte, Nat.reduceEqDiff, Nat.reduceAdd, Nat.reduceLeDiff, Nat.reduceLT, Nat.reduceMul, reduceCtorEq, Int.reduceEq, Int.reduceLT, Int.reduceLE, Int.reduceNeg, Int.reduceToNat, Int.reduceMul, Int.reduceAdd, Int.reduceSub] | simp (disch := (first | omega | (simp only [go_sem]; done) | (simp only [lens]; omega))) only [wrap_u8_id, wrap_u32_id, wrap_u64_id, wrap_i64_id, wrap_i32_id, tmod_nn, tdiv_nn, Int.toNat_natCast, bnd_nh, bnd_ln, bnd_lh, is_str, ix_sl, ir_ptr, ia_agg, tsC_cells, mk_ints, evb_sadd, decide_t, decide_f, hadd_ne', hset_ne', srcC_cells, ap_nil, ap_sl, apC_cells, goNSC_on, goNSC_end, stC_one, stC_agg, fillC_one, fillC_agg, part_t, box_one, box_agg, evb_quo, evb_rem, evb_shl, evb_shr])))
  refine cut_ac s1 60 ?_
  ((try simp -implicitDefEqProofs only [later, laterE, laterD, laterR]); (repeat (first | simp -implicitDefEqProofs only [go_sem, ↓reduceIte, Nat.reduceEqDiff, Nat.reduceAdd, Nat.reduceLeDiff, Nat.reduceLT, Nat.reduceMul, reduceCtorEq, Int.reduceEq, Int.reduceLT, Int.reduceLE, Int.reduceNeg, Int.reduceToNat, Int.reduceMul, Int.reduceAdd, Int.reduceSub] | simp (disch := (first | omega | (simp only [go_sem]; done) | (simp only [lens]; omega))) only [wrap_u8_id, wrap_u32_id, wrap_u64_id, wrap_i64_id, wrap_i32_id, tmod_nn, tdiv_nn, Int.toNat_natCast, bnd_nh, bnd_ln, bnd_lh, is_str, ix_sl, ir_ptr, ia_agg, tsC_cells, mk_ints, evb_sadd, decide_t, decide_f, hadd_ne', hset_ne', srcC_cells, ap_nil, ap_sl, apC_cells, goNSC_on, goNSC_end, stC_one, stC_agg, fillC_one, fillC_agg, part_t, box_one, box_agg, evb_quo, evb_rem, evb_shl, evb_shr])))
  refine cut_ac s2 60 ?_
  have h1 : (s1.take 60).length ≤ 60 := List.length_take_le ..
  have h2 : (s2.take 60).length ≤ 60 := List.length_take_le ..
  generalize s1.take 60 = a at *; generalize s2.take 60 = b at *
  ((try simp -implicitDefEqProofs only [later, laterE, laterD, laterR]); (repeat (first | simp -implicitDefEqProofs only [go_sem, ↓reduceIte, Nat.reduceEqDiff, Nat.reduceAdd, Nat.reduceLeDiff, Nat.reduceLT, Nat.reduceMul, reduceCtorEq, Int.reduceEq, Int.reduceLT, Int.reduceLE, Int.reduceNeg, Int.reduceToNat, Int.reduceMul, Int.reduceAdd, Int.reduceSub] | simp (disch := (first | omega | (simp only [go_sem]; done) | (simp only [lens]; omega))) only [wrap_u8_id, wrap_u32_id, wrap_u64_id, wrap_i64_id, wrap_i32_id, tmod_nn, tdiv_nn, Int.toNat_natCast, bnd_nh, bnd_ln, bnd_lh, is_str, ix_sl, ir_ptr, ia_agg, tsC_cells, mk_ints, evb_sadd, decide_t, decide_f, hadd_ne', hset_ne', srcC_cells, ap_nil, ap_sl, apC_cells, goNSC_on, goNSC_end, stC_one, stC_agg, fillC_one, fillC_agg, part_t, box_one, box_agg, evb_quo, evb_rem, evb_shl, evb_shr])))
  refine name_ac a ?_
  cases ha : nameOk a
  · ((try simp -implicitDefEqProofs only [later, laterE, laterD, laterR]); (repeat (first | simp -implicitDefEqProofs only [go_sem, ↓reduceIte, Nat.reduceEqDiff, Nat.reduceAdd, Nat.reduceLeDiff, Nat.reduceLT, Nat.reduceMul, reduceCtorEq, Int.reduceEq, Int.reduceLT, Int.reduceLE, Int.reduceNeg, Int.reduceToNat, Int.reduceMul, Int.reduceAdd, Int.reduceSub] | simp (disch := (first | omega | (simp only [go_sem]; done) | (simp only [lens]; omega))) only [wrap_u8_id, wrap_u32_id, wrap_u64_id, wrap_i64_id, wrap_i32_id, tmod_nn, tdiv_nn, Int.toNat_natCast, bnd_nh, bnd_ln, bnd_lh, is_str, ix_sl, ir_ptr, ia_agg, tsC_cells, mk_ints, evb_sadd, decide_t, decide_f, hadd_ne', hset_ne', srcC_cells, ap_nil, ap_sl, apC_cells, goNSC_on, goNSC_end, stC_one, stC_agg, fillC_one, fillC_agg, part_t, box_one, box_agg, evb_quo, evb_rem, evb_shl, evb_shr])))
    refine awake_ac ?_
    ((try simp -implicitDefEqProofs only [later, laterE, laterD, laterR]); (repeat (first | simp -implicitDefEqProofs only [go_sem, ↓reduceIte, Nat.reduceEqDiff, Nat.reduceAdd, Nat.reduceLeDiff, Nat.reduceLT, Nat.reduceMul, reduceCtorEq, Int.reduceEq, Int.reduceLT, Int.reduceLE, Int.reduceNeg, Int.reduceToNat, Int.reduceMul, Int.reduceAdd, Int.reduceSub] | simp (disch := (first | omega | (simp only [go_sem]; done) | (simp only [lens]; omega))) only [wrap_u8_id, wrap_u32_id, wrap_u64_id, wrap_i64_id, wrap_i32_id, tmod_nn, tdiv_nn, Int.toNat_natCast, bnd_nh, bnd_ln, bnd_lh, is_str, ix_sl, ir_ptr, ia_agg, tsC_cells, mk_ints, evb_sadd, decide_t, decide_f, hadd_ne', hset_ne', srcC_cells, ap_nil, ap_sl, apC_cells, goNSC_on, goNSC_end, stC_one, stC_agg, fillC_one, fillC_agg, part_t, box_one, box_agg, evb_quo, evb_rem, evb_shl, evb_shr])))
    exact ⟨h, Sub.refl, hq⟩
  ((try simp -implicitDefEqProofs only [later, laterE, laterD, laterR]); (repeat (first | simp -implicitDefEqProofs only [go_sem, ↓reduceIte, Nat.reduceEqDiff, Nat.reduceAdd, Nat.reduceLeDiff, Nat.reduceLT, Nat.reduceMul, reduceCtorEq, Int.reduceEq, Int.reduceLT, Int.reduceLE, Int.reduceNeg, Int.reduceToNat, Int.reduceMul, Int.reduceAdd, Int.reduceSub] | simp (disch := (first | omega | (simp only [go_sem]; done) | (simp only [lens]; omega))) only [wrap_u8_id, wrap_u32_id, wrap_u64_id, wrap_i64_id, wrap_i32_id, tmod_nn, tdiv_nn, Int.toNat_natCast, bnd_nh, bnd_ln, bnd_lh, is_str, ix_sl, ir_ptr, ia_agg, tsC_cells, mk_ints, evb_sadd, decide_t, decide_f, hadd_ne', hset_ne', srcC_cells, ap_nil, ap_sl, apC_cells, goNSC_on, goNSC_end, stC_one, stC_agg, fillC_one, fillC_agg, part_t, box_one, box_agg, evb_quo, evb_rem, evb_shl, evb_shr])))
  refine name_ac b ?_
  cases hb : nameOk b
  · ((try simp -implicitDefEqProofs only [later, laterE, laterD, laterR]); (repeat (first | simp -implicitDefEqProofs only [go_sem, ↓reduceIte, Nat.reduceEqDiff, Nat.reduceAdd, Nat.reduceLeDiff, Nat.reduceLT, Nat.reduceMul, reduceCtorEq, Int.reduceEq, Int.reduceLT, Int.reduceLE, Int.reduceNeg, Int.reduceToNat, Int.reduceMul, Int.reduceAdd, Int.reduceSub] | simp (disch := (first | omega | (simp only [go_sem]; done) | (simp only [lens]; omega))) only [wrap_u8_id, wrap_u32_id, wrap_u64_id, wrap_i64_id, wrap_i32_id, tmod_nn, tdiv_nn, Int.toNat_natCast, bnd_nh, bnd_ln, bnd_lh, is_str, ix_sl, ir_ptr, ia_agg, tsC_cells, mk_ints, evb_sadd, decide_t, decide_f, hadd_ne', hset_ne', srcC_cells, ap_nil, ap_sl, apC_cells, goNSC_on, goNSC_end, stC_one, stC_agg, fillC_one, fillC_agg, part_t, box_one, box_agg, evb_quo, evb_rem, evb_shl, evb_shr])))
    refine awake_ac ?_
    ((try simp -implicitDefEqProofs only [later, laterE, laterD, laterR]); (repeat (first | simp -implicitDefEqProofs only [go_sem, ↓reduceIte, Nat.reduceEqDiff, Nat.reduceAdd, Nat.reduceLeDiff, Nat.reduceLT, Nat.reduceMul, reduceCtorEq, Int.reduceEq, Int.reduceLT, Int.reduceLE, Int.reduceNeg, Int.reduceToNat, Int.reduceMul, Int.reduceAdd, Int.reduceSub] | simp (disch := (first | omega | (simp only [go_sem]; done) | (simp only [lens]; omega))) only [wrap_u8_id, wrap_u32_id, wrap_u64_id, wrap_i64_id, wrap_i32_id, tmod_nn, tdiv_nn, Int.toNat_natCast, bnd_nh, bnd_ln, bnd_lh, is_str, ix_sl, ir_ptr, ia_agg, tsC_cells, mk_ints, evb_sadd, decide_t, decide_f, hadd_ne', hset_ne', srcC_cells, ap_nil, ap_sl, apC_cells, goNSC_on, goNSC_end, stC_one, stC_agg, fillC_one, fillC_agg, part_t, box_one, box_agg, evb_quo, evb_rem, evb_shl, evb_shr])))
    exact ⟨h, Sub.refl, hq⟩
  have hbn := c.toNat_lt
  have key := names_both ha hb
  have hodd := names_odd (a := a.take 20) (b := b.take 19) (c := c)
  have ho : okB c = false ∨ ((65 ≤ c.toNat → ¬ c.toNat ≤ 90) ∧ c.toNat ≠ 32 ∧ c.toNat ≠ 47 ∧ c.toNat ≠ 0) := by
    unfold okB
    by_cases hh : (65 ≤ c.toNat → ¬ c.toNat ≤ 90) ∧ c.toNat ≠ 32 ∧ c.toNat ≠ 47 ∧ c.toNat ≠ 0
    · exact .inr hh
    · left; rw [decide_eq_false_iff_not]; omega
  have l1 : (a.take 20).length ≤ 20 := List.length_take_le ..
  have l2 : (b.take 19).length ≤ 19 := List.length_take_le ..
  have fin : ∀ (odd : Bool), (odd = true → okB c = false) → (Bool.true && (!odd || !nameOk (a.take 20 ++ [c] ++ b.take 19))) = true := fun odd e => by
    cases odd
    · rfl
    · rw [hodd (e rfl)]; rfl
  have hcc : UInt8.ofNat (((c.toNat : Nat) : Int).toNat) = c := by simp
  generalize hX : ((c.toNat : Nat) : Int) = X at *
  generalize hP : decide ((a.length : Int) + b.length ≤ 40) = p at *
  have hp2 : decide ((a.length : Int) + (b.length : Int) ≤ 40) = p := hP
  (have hI : X < 0 ∨ X = 0 ∨ 1 ≤ X ∧ X < 32 ∨ X = 32 ∨ 33 ≤ X ∧ X < 47 ∨ X = 47 ∨ 48 ≤ X ∧ X < 65 ∨ 65 ≤ X ∧ X < 91 ∨ 91 ≤ X := (by omega)); rcases hI with hI | hI | hI | hI | hI | hI | hI | hI | hI
  all_goals
    ((try simp -implicitDefEqProofs only [later, laterE, laterD, laterR]); (repeat (first | simp -implicitDefEqProofs only [go_sem, ↓reduceIte, Nat.reduceEqDiff, Nat.reduceAdd, Nat.reduceLeDiff, Nat.reduceLT, Nat.reduceMul, reduceCtorEq, Int.reduceEq, Int.reduceLT, Int.reduceLE, Int.reduceNeg, Int.reduceToNat, Int.reduceMul, Int.reduceAdd, Int.reduceSub] | simp (disch := (first | omega | (simp only [go_sem]; done) | (simp only [lens]; omega))) only [wrap_u8_id, wrap_u32_id, wrap_u64_id, wrap_i64_id, wrap_i32_id, tmod_nn, tdiv_nn, Int.toNat_natCast, bnd_nh, bnd_ln, bnd_lh, is_str, ix_sl, ir_ptr, ia_agg, tsC_cells, mk_ints, evb_sadd, decide_t, decide_f, hadd_ne', hset_ne', srcC_cells, ap_nil, ap_sl, apC_cells, goNSC_on, goNSC_end, stC_one, stC_agg, fillC_one, fillC_agg, part_t, box_one, box_agg, evb_quo, evb_rem, evb_shl, evb_shr])))
    refine awake_ac ?_
    ((try simp -implicitDefEqProofs only [later, laterE, laterD, laterR]); (repeat (first | simp -implicitDefEqProofs only [go_sem, ↓reduceIte, Nat.reduceEqDiff, Nat.reduceAdd, Nat.reduceLeDiff, Nat.reduceLT, Nat.reduceMul, reduceCtorEq, Int.reduceEq, Int.reduceLT, Int.reduceLE, Int.reduceNeg, Int.reduceToNat, Int.reduceMul, Int.reduceAdd, Int.reduceSub, hp2] | simp (disch := (first | omega | (simp only [go_sem]; done) | (simp only [lens]; omega))) only [wrap_u8_id, wrap_u32_id, wrap_u64_id, wrap_i64_id, wrap_i32_id, tmod_nn, tdiv_nn, Int.toNat_natCast, bnd_nh, bnd_ln, bnd_lh, is_str, ix_sl, ir_ptr, ia_agg, tsC_cells, mk_ints, evb_sadd, decide_t, decide_f, hadd_ne', hset_ne', srcC_cells, ap_nil, ap_sl, apC_cells, goNSC_on, goNSC_end, stC_one, stC_agg, fillC_one, fillC_agg, part_t, box_one, box_agg, evb_quo, evb_rem, evb_shl, evb_shr, hp2])))
    refine name_ac _ ?_
    rw [key]
    ((try simp -implicitDefEqProofs only [later, laterE, laterD, laterR]); (repeat (first | simp -implicitDefEqProofs only [go_sem, ↓reduceIte, Nat.reduceEqDiff, Nat.reduceAdd, Nat.reduceLeDiff, Nat.reduceLT, Nat.reduceMul, reduceCtorEq, Int.reduceEq, Int.reduceLT, Int.reduceLE, Int.reduceNeg, Int.reduceToNat, Int.reduceMul, Int.reduceAdd, Int.reduceSub, hp2] | simp (disch := (first | omega | (simp only [go_sem]; done) | (simp only [lens]; omega))) only [wrap_u8_id, wrap_u32_id, wrap_u64_id, wrap_i64_id, wrap_i32_id, tmod_nn, tdiv_nn, Int.toNat_natCast, bnd_nh, bnd_ln, bnd_lh, is_str, ix_sl, ir_ptr, ia_agg, tsC_cells, mk_ints, evb_sadd, decide_t, decide_f, hadd_ne', hset_ne', srcC_cells, ap_nil, ap_sl, apC_cells, goNSC_on, goNSC_end, stC_one, stC_agg, fillC_one, fillC_agg, part_t, box_one, box_agg, evb_quo, evb_rem, evb_shl, evb_shr, hp2])))
    first
      | (have hno : nameOk (a.take 20 ++ [c] ++ b.take 19) = false := hodd (ho.resolve_right (by omega))
         refine cut_ac a 20 ?_
         ((try simp -implicitDefEqProofs only [later, laterE, laterD, laterR]); (repeat (first | simp -implicitDefEqProofs only [go_sem, ↓reduceIte, Nat.reduceEqDiff, Nat.reduceAdd, Nat.reduceLeDiff, Nat.reduceLT, Nat.reduceMul, reduceCtorEq, Int.reduceEq, Int.reduceLT, Int.reduceLE, Int.reduceNeg, Int.reduceToNat, Int.reduceMul, Int.reduceAdd, Int.reduceSub, hcc] | simp (disch := (first | omega | (simp only [go_sem]; done) | (simp only [lens]; omega))) only [wrap_u8_id, wrap_u32_id, wrap_u64_id, wrap_i64_id, wrap_i32_id, tmod_nn, tdiv_nn, Int.toNat_natCast, bnd_nh, bnd_ln, bnd_lh, is_str, ix_sl, ir_ptr, ia_agg, tsC_cells, mk_ints, evb_sadd, decide_t, decide_f, hadd_ne', hset_ne', srcC_cells, ap_nil, ap_sl, apC_cells, goNSC_on, goNSC_end, stC_one, stC_agg, fillC_one, fillC_agg, part_t, box_one, box_agg, evb_quo, evb_rem, evb_shl, evb_shr, hcc])))
         refine cut_ac b 19 ?_
         ((try simp -implicitDefEqProofs only [later, laterE, laterD, laterR]); (repeat (first | simp -implicitDefEqProofs only [go_sem, ↓reduceIte, Nat.reduceEqDiff, Nat.reduceAdd, Nat.reduceLeDiff, Nat.reduceLT, Nat.reduceMul, reduceCtorEq, Int.reduceEq, Int.reduceLT, Int.reduceLE, Int.reduceNeg, Int.reduceToNat, Int.reduceMul, Int.reduceAdd, Int.reduceSub, hcc] | simp (disch := (first | omega | (simp only [go_sem]; done) | (simp only [lens]; omega))) only [wrap_u8_id, wrap_u32_id, wrap_u64_id, wrap_i64_id, wrap_i32_id, tmod_nn, tdiv_nn, Int.toNat_natCast, bnd_nh, bnd_ln, bnd_lh, is_str, ix_sl, ir_ptr, ia_agg, tsC_cells, mk_ints, evb_sadd, decide_t, decide_f, hadd_ne', hset_ne', srcC_cells, ap_nil, ap_sl, apC_cells, goNSC_on, goNSC_end, stC_one, stC_agg, fillC_one, fillC_agg, part_t, box_one, box_agg, evb_quo, evb_rem, evb_shl, evb_shr, hcc])))
         refine name_ac _ ?_
         rw [hno]
         ((try simp -implicitDefEqProofs only [later, laterE, laterD, laterR]); (repeat (first | simp -implicitDefEqProofs only [go_sem, ↓reduceIte, Nat.reduceEqDiff, Nat.reduceAdd, Nat.reduceLeDiff, Nat.reduceLT, Nat.reduceMul, reduceCtorEq, Int.reduceEq, Int.reduceLT, Int.reduceLE, Int.reduceNeg, Int.reduceToNat, Int.reduceMul, Int.reduceAdd, Int.reduceSub, hcc] | simp (disch := (first | omega | (simp only [go_sem]; done) | (simp only [lens]; omega))) only [wrap_u8_id, wrap_u32_id, wrap_u64_id, wrap_i64_id, wrap_i32_id, tmod_nn, tdiv_nn, Int.toNat_natCast, bnd_nh, bnd_ln, bnd_lh, is_str, ix_sl, ir_ptr, ia_agg, tsC_cells, mk_ints, evb_sadd, decide_t, decide_f, hadd_ne', hset_ne', srcC_cells, ap_nil, ap_sl, apC_cells, goNSC_on, goNSC_end, stC_one, stC_agg, fillC_one, fillC_agg, part_t, box_one, box_agg, evb_quo, evb_rem, evb_shl, evb_shr, hcc])))
         exact ⟨h, Sub.refl, hq⟩)
      | exact ⟨h, Sub.refl, hq⟩
      | skip
end Go.Proofs.Ytijipnkdabdioaa
