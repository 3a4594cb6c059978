/- Sorting, 8: the partition. -/
import Derived.Test.YtijipnkdabdioaaO6
set_option linter.unusedSimpArgs false
set_option linter.unusedVariables false
namespace Go.Proofs.Ytijipnkdabdioaa
open Mir
open Go.Sort (ltStr swp scanUp scanDown)
variable {h : H} {Q : V → H → Prop} {b n : Nat} {d : Txts}
theorem partition_ac (hb : h b = some (rowO d)) (hn : d.size = n) (a e pv : Nat) (hae : a + 1 < e) (he : e ≤ n) (hl : n < 4294967296) (hp1 : a ≤ pv) (hp2 : pv < e)
    (hq : Q (.tup [.int .i64 ((Go.Sort.partition ltStr d a e pv).1 : Nat), .bool (Go.Sort.partition ltStr d a e pv).2.1]) (hadd h b (rowO (Go.Sort.partition ltStr d a e pv).2.2))) :
    AC pg (.fn 77) [.sl b 0 1 n, .int .i64 a, .int .i64 e, .int .i64 pv] h Q := by
  refine AC.fn' (g := g77) rfl (by simp only [List.length_cons, List.length_nil, g77]; decide) ?_; simp only [g77]
  have fit := rowV_len d
  have gi0 := rowV_get (d := d) (i := a) (by omega)
  have gi1 := rowV_get (d := d) (i := pv) (by omega)
  have wi1 := rowV_set (d := d) (i := a) (x := d[pv]!) (by omega)
  have wi2 := swp_row (d := d) (i := a) (j := pv) (by omega) (by omega)
  have fiti := rowV_len (d.setIfInBounds (a) d[pv]!)
  rw [Array.size_setIfInBounds] at fiti
  ((try simp -implicitDefEqProofs only [later, laterE, laterD, laterR]); (repeat (first | simp -implicitDefEqProofs only [go_sem, ↓reduceIte, Nat.reduceEqDiff, Nat.reduceAdd, Nat.reduceLeDiff, Nat.reduceLT, Nat.reduceMul, reduceCtorEq, Int.reduceEq, Int.reduceLT, Int.reduceLE, Int.reduceNeg, Int.reduceToNat, Int.reduceMul, Int.reduceAdd, Int.reduceSub, hb, rowO, gi0, gi1, wi1, wi2] | simp (disch := (first | omega | (simp only [go_sem]; done) | (simp only [lens]; omega))) only [wrap_u8_id, wrap_u32_id, wrap_u64_id, wrap_i64_id, wrap_i32_id, tmod_nn, tdiv_nn, Int.toNat_natCast, bnd_nh, bnd_ln, bnd_lh, is_str, ix_sl, ir_ptr, ia_agg, tsC_cells, mk_ints, evb_sadd, decide_t, decide_f, hadd_ne', hset_ne', srcC_cells, ap_nil, ap_sl, apC_cells, goNSC_on, goNSC_end, stC_one, stC_agg, fillC_one, fillC_agg, part_t, box_one, box_agg, evb_quo, evb_rem, evb_shl, evb_shr, hb, rowO, gi0, gi1, wi1, wi2])))
  unfold Go.Sort.partition at hq
  simp only at hq
  have hsA : (swp d a pv).size = n := by rw [swp_size]; exact hn
  generalize swp d a pv = dA at *
  have fitA := rowV_len dA
  have ga := rowV_get (d := dA) (i := a) (by omega)
  have hij : a + 1 ≤ (e - 1) + 1 := by omega
  obtain ⟨e1, he1⟩ : ∃ e1, e - 1 = e1 := ⟨_, rfl⟩
  rw [he1] at hq hij
  have he1' : (e : Int) - 1 = e1 := by omega
  generalize hU : scanUp (fun x => ltStr x dA[a]!) dA e1 (a + 1) = U0 at *
  have hU1 : (a + 1) ≤ U0 := by rw [← hU]; exact Go.Sort.scanUp_ge _ _ _ _
  have hU2 : U0 ≤ e1 + 1 := by rw [← hU]; exact scanUp_le _ _ _ _ _ (Nat.le_refl _) hij
  have hUf := (Go.Sort.scanUp_spec (fun x => ltStr x dA[a]!) dA (e1) _ ((a + 1)) rfl).2.2.2
  rw [hU] at hUf
  have hDf := (Go.Sort.scanDown_spec (fun x => !ltStr x dA[a]!) dA U0 (e1)).2
  generalize hD : scanDown (fun x => !ltStr x dA[a]!) dA U0 (e1) = D0 at *
  have hD1 : D0 ≤ e1 := by rw [← hD]; exact Go.Sort.scanDown_le _ _ _ _
  have hD2 : U0 ≤ D0 + 1 := hDf.1 (by omega)
  have hne : ¬ D0 < U0 → U0 ≠ D0 := fun hlt e => by
    have x1 := hUf (by omega)
    have x2 := hDf.2.2 (by omega) (by omega)
    rw [e] at x1
    rw [x1] at x2; cases x2
  rw [he1']
  refine E.cut AC.mono (fun ex a' h' => ex = .exit 0 ∧ h' = hadd h b (rowO dA) ∧ a'.d = [] ∧ a'.t 0 = .sl b 0 1 n ∧ a'.t 1 = .int .i64 a ∧ a'.t 10 = .int .i64 U0 ∧ a'.t 11 = .int .i64 e1) ?_ ?_
  · refine E.loopX AC.mono (fun (k : Nat) a' h' => (a + 1) ≤ k ∧ k ≤ e1 + 1 ∧ h' = hadd h b (rowO dA) ∧ scanUp (fun x => ltStr x dA[a]!) dA e1 k = U0 ∧ a'.d = [] ∧ a'.t 0 = .sl b 0 1 n ∧ a'.t 1 = .int .i64 a ∧ a'.t 10 = .int .i64 k ∧ a'.t 11 = .int .i64 e1) (fun k => e1 + 1 - k) (a + 1) ?_ ?_
    · refine ⟨Nat.le_refl _, hij, rfl, hU, ?_⟩
      ((try simp -implicitDefEqProofs only [later, laterE, laterD, laterR]); (repeat (first | simp -implicitDefEqProofs only [go_sem, ↓reduceIte, Nat.reduceEqDiff, Nat.reduceAdd, Nat.reduceLeDiff, Nat.reduceLT, Nat.reduceMul, reduceCtorEq, Int.reduceEq, Int.reduceLT, Int.reduceLE, Int.reduceNeg, Int.reduceToNat, Int.reduceMul, Int.reduceAdd, Int.reduceSub, t0, t1, t10, t11] | simp (disch := (first | omega | (simp only [go_sem]; done) | (simp only [lens]; omega))) only [wrap_u8_id, wrap_u32_id, wrap_u64_id, wrap_i64_id, wrap_i32_id, tmod_nn, tdiv_nn, Int.toNat_natCast, bnd_nh, bnd_ln, bnd_lh, is_str, ix_sl, ir_ptr, ia_agg, tsC_cells, mk_ints, evb_sadd, decide_t, decide_f, hadd_ne', hset_ne', srcC_cells, ap_nil, ap_sl, apC_cells, goNSC_on, goNSC_end, stC_one, stC_agg, fillC_one, fillC_agg, part_t, box_one, box_agg, evb_quo, evb_rem, evb_shl, evb_shr, t0, t1, t10, t11])))
      all_goals first | trivial | skip
    · rintro k ⟨t, ds⟩ h' ⟨hk1, hk2, rfl, hK, hd, t0, t1, t10, t11⟩
      simp only at hd t0 t1 t10 t11; subst hd
      rw [scanUp] at hK
      by_cases ck : (k : Int) ≤ e1
      · have gk := rowV_get (d := dA) (i := k) (by omega)
        ((try simp -implicitDefEqProofs only [later, laterE, laterD, laterR]); (repeat (first | simp -implicitDefEqProofs only [go_sem, ↓reduceIte, Nat.reduceEqDiff, Nat.reduceAdd, Nat.reduceLeDiff, Nat.reduceLT, Nat.reduceMul, reduceCtorEq, Int.reduceEq, Int.reduceLT, Int.reduceLE, Int.reduceNeg, Int.reduceToNat, Int.reduceMul, Int.reduceAdd, Int.reduceSub, t0, t1, t10, t11, rowO, ga, gk] | simp (disch := (first | omega | (simp only [go_sem]; done) | (simp only [lens]; omega))) only [wrap_u8_id, wrap_u32_id, wrap_u64_id, wrap_i64_id, wrap_i32_id, tmod_nn, tdiv_nn, Int.toNat_natCast, bnd_nh, bnd_ln, bnd_lh, is_str, ix_sl, ir_ptr, ia_agg, tsC_cells, mk_ints, evb_sadd, decide_t, decide_f, hadd_ne', hset_ne', srcC_cells, ap_nil, ap_sl, apC_cells, goNSC_on, goNSC_end, stC_one, stC_agg, fillC_one, fillC_agg, part_t, box_one, box_agg, evb_quo, evb_rem, evb_shl, evb_shr, t0, t1, t10, t11, rowO, ga, gk])))
        refine less_ac _ _ ?_
        cases hlt : ltStr dA[k]! dA[a]!
        · rw [hlt, Bool.and_false, if_neg (by decide)] at hK
          subst hK
          ((try simp -implicitDefEqProofs only [later, laterE, laterD, laterR]); (repeat (first | simp -implicitDefEqProofs only [go_sem, ↓reduceIte, Nat.reduceEqDiff, Nat.reduceAdd, Nat.reduceLeDiff, Nat.reduceLT, Nat.reduceMul, reduceCtorEq, Int.reduceEq, Int.reduceLT, Int.reduceLE, Int.reduceNeg, Int.reduceToNat, Int.reduceMul, Int.reduceAdd, Int.reduceSub, t0, t1, t10, t11] | simp (disch := (first | omega | (simp only [go_sem]; done) | (simp only [lens]; omega))) only [wrap_u8_id, wrap_u32_id, wrap_u64_id, wrap_i64_id, wrap_i32_id, tmod_nn, tdiv_nn, Int.toNat_natCast, bnd_nh, bnd_ln, bnd_lh, is_str, ix_sl, ir_ptr, ia_agg, tsC_cells, mk_ints, evb_sadd, decide_t, decide_f, hadd_ne', hset_ne', srcC_cells, ap_nil, ap_sl, apC_cells, goNSC_on, goNSC_end, stC_one, stC_agg, fillC_one, fillC_agg, part_t, box_one, box_agg, evb_quo, evb_rem, evb_shl, evb_shr, t0, t1, t10, t11])))
        · rw [hlt, decide_eq_true (show k ≤ e1 by omega), if_pos (by decide)] at hK
          ((try simp -implicitDefEqProofs only [later, laterE, laterD, laterR]); (repeat (first | simp -implicitDefEqProofs only [go_sem, ↓reduceIte, Nat.reduceEqDiff, Nat.reduceAdd, Nat.reduceLeDiff, Nat.reduceLT, Nat.reduceMul, reduceCtorEq, Int.reduceEq, Int.reduceLT, Int.reduceLE, Int.reduceNeg, Int.reduceToNat, Int.reduceMul, Int.reduceAdd, Int.reduceSub, t0, t1, t10, t11] | simp (disch := (first | omega | (simp only [go_sem]; done) | (simp only [lens]; omega))) only [wrap_u8_id, wrap_u32_id, wrap_u64_id, wrap_i64_id, wrap_i32_id, tmod_nn, tdiv_nn, Int.toNat_natCast, bnd_nh, bnd_ln, bnd_lh, is_str, ix_sl, ir_ptr, ia_agg, tsC_cells, mk_ints, evb_sadd, decide_t, decide_f, hadd_ne', hset_ne', srcC_cells, ap_nil, ap_sl, apC_cells, goNSC_on, goNSC_end, stC_one, stC_agg, fillC_one, fillC_agg, part_t, box_one, box_agg, evb_quo, evb_rem, evb_shl, evb_shr, t0, t1, t10, t11])))
          refine ⟨k + 1, ?_⟩
          ((try simp -implicitDefEqProofs only [later, laterE, laterD, laterR]); (repeat (first | simp -implicitDefEqProofs only [go_sem, ↓reduceIte, Nat.reduceEqDiff, Nat.reduceAdd, Nat.reduceLeDiff, Nat.reduceLT, Nat.reduceMul, reduceCtorEq, Int.reduceEq, Int.reduceLT, Int.reduceLE, Int.reduceNeg, Int.reduceToNat, Int.reduceMul, Int.reduceAdd, Int.reduceSub, t0, t1, t10, t11] | simp (disch := (first | omega | (simp only [go_sem]; done) | (simp only [lens]; omega))) only [wrap_u8_id, wrap_u32_id, wrap_u64_id, wrap_i64_id, wrap_i32_id, tmod_nn, tdiv_nn, Int.toNat_natCast, bnd_nh, bnd_ln, bnd_lh, is_str, ix_sl, ir_ptr, ia_agg, tsC_cells, mk_ints, evb_sadd, decide_t, decide_f, hadd_ne', hset_ne', srcC_cells, ap_nil, ap_sl, apC_cells, goNSC_on, goNSC_end, stC_one, stC_agg, fillC_one, fillC_agg, part_t, box_one, box_agg, evb_quo, evb_rem, evb_shl, evb_shr, t0, t1, t10, t11])))
          refine ⟨by omega, by omega, by omega, hK, ?_⟩
          ((repeat' apply And.intro) <;> (first | omega | rfl | assumption | (congr 1 <;> omega) | skip))
      · rw [decide_eq_false (show ¬ k ≤ e1 by omega), Bool.false_and, if_neg (by decide)] at hK
        subst hK
        ((try simp -implicitDefEqProofs only [later, laterE, laterD, laterR]); (repeat (first | simp -implicitDefEqProofs only [go_sem, ↓reduceIte, Nat.reduceEqDiff, Nat.reduceAdd, Nat.reduceLeDiff, Nat.reduceLT, Nat.reduceMul, reduceCtorEq, Int.reduceEq, Int.reduceLT, Int.reduceLE, Int.reduceNeg, Int.reduceToNat, Int.reduceMul, Int.reduceAdd, Int.reduceSub, t0, t1, t10, t11] | simp (disch := (first | omega | (simp only [go_sem]; done) | (simp only [lens]; omega))) only [wrap_u8_id, wrap_u32_id, wrap_u64_id, wrap_i64_id, wrap_i32_id, tmod_nn, tdiv_nn, Int.toNat_natCast, bnd_nh, bnd_ln, bnd_lh, is_str, ix_sl, ir_ptr, ia_agg, tsC_cells, mk_ints, evb_sadd, decide_t, decide_f, hadd_ne', hset_ne', srcC_cells, ap_nil, ap_sl, apC_cells, goNSC_on, goNSC_end, stC_one, stC_agg, fillC_one, fillC_agg, part_t, box_one, box_agg, evb_quo, evb_rem, evb_shl, evb_shr, t0, t1, t10, t11])))
  · rintro ex ⟨t, ds⟩ h' ⟨rfl, rfl, hd, t0, t1, t10, t11⟩
    simp only at hd t0 t1 t10 t11; subst hd
    ((try simp -implicitDefEqProofs only [later, laterE, laterD, laterR]); (repeat (first | simp -implicitDefEqProofs only [go_sem, ↓reduceIte, Nat.reduceEqDiff, Nat.reduceAdd, Nat.reduceLeDiff, Nat.reduceLT, Nat.reduceMul, reduceCtorEq, Int.reduceEq, Int.reduceLT, Int.reduceLE, Int.reduceNeg, Int.reduceToNat, Int.reduceMul, Int.reduceAdd, Int.reduceSub, t0, t1, t10, t11] | simp (disch := (first | omega | (simp only [go_sem]; done) | (simp only [lens]; omega))) only [wrap_u8_id, wrap_u32_id, wrap_u64_id, wrap_i64_id, wrap_i32_id, tmod_nn, tdiv_nn, Int.toNat_natCast, bnd_nh, bnd_ln, bnd_lh, is_str, ix_sl, ir_ptr, ia_agg, tsC_cells, mk_ints, evb_sadd, decide_t, decide_f, hadd_ne', hset_ne', srcC_cells, ap_nil, ap_sl, apC_cells, goNSC_on, goNSC_end, stC_one, stC_agg, fillC_one, fillC_agg, part_t, box_one, box_agg, evb_quo, evb_rem, evb_shl, evb_shr, t0, t1, t10, t11])))
    refine E.cut AC.mono (fun ex a' h' => ex = .exit 2 ∧ h' = hadd h b (rowO dA) ∧ a'.d = [] ∧ a'.t 0 = .sl b 0 1 n ∧ a'.t 1 = .int .i64 a ∧ a'.t 10 = .int .i64 U0 ∧ a'.t 11 = .int .i64 D0) ?_ ?_
    · refine E.loopX AC.mono (fun (k : Nat) a' h' => k ≤ e1 ∧ h' = hadd h b (rowO dA) ∧ scanDown (fun x => !ltStr x dA[a]!) dA U0 k = D0 ∧ a'.d = [] ∧ a'.t 0 = .sl b 0 1 n ∧ a'.t 1 = .int .i64 a ∧ a'.t 10 = .int .i64 U0 ∧ a'.t 11 = .int .i64 k) (fun k => k) (e1) ?_ ?_
      · refine ⟨Nat.le_refl _, rfl, hD, ?_⟩
        ((try simp -implicitDefEqProofs only [later, laterE, laterD, laterR]); (repeat (first | simp -implicitDefEqProofs only [go_sem, ↓reduceIte, Nat.reduceEqDiff, Nat.reduceAdd, Nat.reduceLeDiff, Nat.reduceLT, Nat.reduceMul, reduceCtorEq, Int.reduceEq, Int.reduceLT, Int.reduceLE, Int.reduceNeg, Int.reduceToNat, Int.reduceMul, Int.reduceAdd, Int.reduceSub, t0, t1, t10, t11] | simp (disch := (first | omega | (simp only [go_sem]; done) | (simp only [lens]; omega))) only [wrap_u8_id, wrap_u32_id, wrap_u64_id, wrap_i64_id, wrap_i32_id, tmod_nn, tdiv_nn, Int.toNat_natCast, bnd_nh, bnd_ln, bnd_lh, is_str, ix_sl, ir_ptr, ia_agg, tsC_cells, mk_ints, evb_sadd, decide_t, decide_f, hadd_ne', hset_ne', srcC_cells, ap_nil, ap_sl, apC_cells, goNSC_on, goNSC_end, stC_one, stC_agg, fillC_one, fillC_agg, part_t, box_one, box_agg, evb_quo, evb_rem, evb_shl, evb_shr, t0, t1, t10, t11])))
      · rintro k ⟨t, ds⟩ h' ⟨hk, rfl, hK, hd, t0, t1, t10, t11⟩
        simp only at hd t0 t1 t10 t11; subst hd
        cases k with
        | zero =>
          rw [scanDown] at hK
          subst hK
          have ck : ¬ (U0 : Int) ≤ ((0 : Nat) : Int) := by omega
          ((try simp -implicitDefEqProofs only [later, laterE, laterD, laterR]); (repeat (first | simp -implicitDefEqProofs only [go_sem, ↓reduceIte, Nat.reduceEqDiff, Nat.reduceAdd, Nat.reduceLeDiff, Nat.reduceLT, Nat.reduceMul, reduceCtorEq, Int.reduceEq, Int.reduceLT, Int.reduceLE, Int.reduceNeg, Int.reduceToNat, Int.reduceMul, Int.reduceAdd, Int.reduceSub, t0, t1, t10, t11] | simp (disch := (first | omega | (simp only [go_sem]; done) | (simp only [lens]; omega))) only [wrap_u8_id, wrap_u32_id, wrap_u64_id, wrap_i64_id, wrap_i32_id, tmod_nn, tdiv_nn, Int.toNat_natCast, bnd_nh, bnd_ln, bnd_lh, is_str, ix_sl, ir_ptr, ia_agg, tsC_cells, mk_ints, evb_sadd, decide_t, decide_f, hadd_ne', hset_ne', srcC_cells, ap_nil, ap_sl, apC_cells, goNSC_on, goNSC_end, stC_one, stC_agg, fillC_one, fillC_agg, part_t, box_one, box_agg, evb_quo, evb_rem, evb_shl, evb_shr, t0, t1, t10, t11])))
        | succ k =>
          rw [scanDown] at hK
          by_cases ck : (U0 : Int) ≤ ((k + 1 : Nat) : Int)
          · have gk := rowV_get (d := dA) (i := k + 1) (by omega)
            ((try simp -implicitDefEqProofs only [later, laterE, laterD, laterR]); (repeat (first | simp -implicitDefEqProofs only [go_sem, ↓reduceIte, Nat.reduceEqDiff, Nat.reduceAdd, Nat.reduceLeDiff, Nat.reduceLT, Nat.reduceMul, reduceCtorEq, Int.reduceEq, Int.reduceLT, Int.reduceLE, Int.reduceNeg, Int.reduceToNat, Int.reduceMul, Int.reduceAdd, Int.reduceSub, t0, t1, t10, t11, rowO, ga, gk] | simp (disch := (first | omega | (simp only [go_sem]; done) | (simp only [lens]; omega))) only [wrap_u8_id, wrap_u32_id, wrap_u64_id, wrap_i64_id, wrap_i32_id, tmod_nn, tdiv_nn, Int.toNat_natCast, bnd_nh, bnd_ln, bnd_lh, is_str, ix_sl, ir_ptr, ia_agg, tsC_cells, mk_ints, evb_sadd, decide_t, decide_f, hadd_ne', hset_ne', srcC_cells, ap_nil, ap_sl, apC_cells, goNSC_on, goNSC_end, stC_one, stC_agg, fillC_one, fillC_agg, part_t, box_one, box_agg, evb_quo, evb_rem, evb_shl, evb_shr, t0, t1, t10, t11, rowO, ga, gk])))
            refine less_ac _ _ ?_
            cases hlt : ltStr dA[k + 1]! dA[a]!
            · rw [hlt, decide_eq_true (show U0 ≤ k + 1 by omega), if_pos (by decide)] at hK
              ((try simp -implicitDefEqProofs only [later, laterE, laterD, laterR]); (repeat (first | simp -implicitDefEqProofs only [go_sem, ↓reduceIte, Nat.reduceEqDiff, Nat.reduceAdd, Nat.reduceLeDiff, Nat.reduceLT, Nat.reduceMul, reduceCtorEq, Int.reduceEq, Int.reduceLT, Int.reduceLE, Int.reduceNeg, Int.reduceToNat, Int.reduceMul, Int.reduceAdd, Int.reduceSub, t0, t1, t10, t11] | simp (disch := (first | omega | (simp only [go_sem]; done) | (simp only [lens]; omega))) only [wrap_u8_id, wrap_u32_id, wrap_u64_id, wrap_i64_id, wrap_i32_id, tmod_nn, tdiv_nn, Int.toNat_natCast, bnd_nh, bnd_ln, bnd_lh, is_str, ix_sl, ir_ptr, ia_agg, tsC_cells, mk_ints, evb_sadd, decide_t, decide_f, hadd_ne', hset_ne', srcC_cells, ap_nil, ap_sl, apC_cells, goNSC_on, goNSC_end, stC_one, stC_agg, fillC_one, fillC_agg, part_t, box_one, box_agg, evb_quo, evb_rem, evb_shl, evb_shr, t0, t1, t10, t11])))
              refine ⟨k, ?_⟩
              ((try simp -implicitDefEqProofs only [later, laterE, laterD, laterR]); (repeat (first | simp -implicitDefEqProofs only [go_sem, ↓reduceIte, Nat.reduceEqDiff, Nat.reduceAdd, Nat.reduceLeDiff, Nat.reduceLT, Nat.reduceMul, reduceCtorEq, Int.reduceEq, Int.reduceLT, Int.reduceLE, Int.reduceNeg, Int.reduceToNat, Int.reduceMul, Int.reduceAdd, Int.reduceSub, t0, t1, t10, t11] | simp (disch := (first | omega | (simp only [go_sem]; done) | (simp only [lens]; omega))) only [wrap_u8_id, wrap_u32_id, wrap_u64_id, wrap_i64_id, wrap_i32_id, tmod_nn, tdiv_nn, Int.toNat_natCast, bnd_nh, bnd_ln, bnd_lh, is_str, ix_sl, ir_ptr, ia_agg, tsC_cells, mk_ints, evb_sadd, decide_t, decide_f, hadd_ne', hset_ne', srcC_cells, ap_nil, ap_sl, apC_cells, goNSC_on, goNSC_end, stC_one, stC_agg, fillC_one, fillC_agg, part_t, box_one, box_agg, evb_quo, evb_rem, evb_shl, evb_shr, t0, t1, t10, t11])))
              refine ⟨by omega, by omega, hK, ?_⟩
              ((repeat' apply And.intro) <;> (first | omega | rfl | assumption | (congr 1 <;> omega) | skip))
            · rw [hlt, Bool.not_true, Bool.and_false, if_neg (by decide)] at hK
              subst hK
              ((try simp -implicitDefEqProofs only [later, laterE, laterD, laterR]); (repeat (first | simp -implicitDefEqProofs only [go_sem, ↓reduceIte, Nat.reduceEqDiff, Nat.reduceAdd, Nat.reduceLeDiff, Nat.reduceLT, Nat.reduceMul, reduceCtorEq, Int.reduceEq, Int.reduceLT, Int.reduceLE, Int.reduceNeg, Int.reduceToNat, Int.reduceMul, Int.reduceAdd, Int.reduceSub, t0, t1, t10, t11] | simp (disch := (first | omega | (simp only [go_sem]; done) | (simp only [lens]; omega))) only [wrap_u8_id, wrap_u32_id, wrap_u64_id, wrap_i64_id, wrap_i32_id, tmod_nn, tdiv_nn, Int.toNat_natCast, bnd_nh, bnd_ln, bnd_lh, is_str, ix_sl, ir_ptr, ia_agg, tsC_cells, mk_ints, evb_sadd, decide_t, decide_f, hadd_ne', hset_ne', srcC_cells, ap_nil, ap_sl, apC_cells, goNSC_on, goNSC_end, stC_one, stC_agg, fillC_one, fillC_agg, part_t, box_one, box_agg, evb_quo, evb_rem, evb_shl, evb_shr, t0, t1, t10, t11])))
          · rw [decide_eq_false (show ¬ U0 ≤ k + 1 by omega), Bool.false_and, if_neg (by decide)] at hK
            subst hK
            ((try simp -implicitDefEqProofs only [later, laterE, laterD, laterR]); (repeat (first | simp -implicitDefEqProofs only [go_sem, ↓reduceIte, Nat.reduceEqDiff, Nat.reduceAdd, Nat.reduceLeDiff, Nat.reduceLT, Nat.reduceMul, reduceCtorEq, Int.reduceEq, Int.reduceLT, Int.reduceLE, Int.reduceNeg, Int.reduceToNat, Int.reduceMul, Int.reduceAdd, Int.reduceSub, t0, t1, t10, t11] | simp (disch := (first | omega | (simp only [go_sem]; done) | (simp only [lens]; omega))) only [wrap_u8_id, wrap_u32_id, wrap_u64_id, wrap_i64_id, wrap_i32_id, tmod_nn, tdiv_nn, Int.toNat_natCast, bnd_nh, bnd_ln, bnd_lh, is_str, ix_sl, ir_ptr, ia_agg, tsC_cells, mk_ints, evb_sadd, decide_t, decide_f, hadd_ne', hset_ne', srcC_cells, ap_nil, ap_sl, apC_cells, goNSC_on, goNSC_end, stC_one, stC_agg, fillC_one, fillC_agg, part_t, box_one, box_agg, evb_quo, evb_rem, evb_shl, evb_shr, t0, t1, t10, t11])))
    · rintro ex ⟨t, ds⟩ h' ⟨rfl, rfl, hd, t0, t1, t10, t11⟩
      simp only at hd t0 t1 t10 t11; subst hd
      by_cases c : (D0 : Int) < U0
      · rw [if_pos (by omega)] at hq
        have gs0 := rowV_get (d := dA) (i := D0) (by omega)
        have gs1 := rowV_get (d := dA) (i := a) (by omega)
        have ws1 := rowV_set (d := dA) (i := D0) (x := dA[a]!) (by omega)
        have ws2 := swp_row (d := dA) (i := D0) (j := a) (by omega) (by omega)
        have fits := rowV_len (dA.setIfInBounds (D0) dA[a]!)
        rw [Array.size_setIfInBounds] at fits
        ((try simp -implicitDefEqProofs only [later, laterE, laterD, laterR]); (repeat (first | simp -implicitDefEqProofs only [go_sem, ↓reduceIte, Nat.reduceEqDiff, Nat.reduceAdd, Nat.reduceLeDiff, Nat.reduceLT, Nat.reduceMul, reduceCtorEq, Int.reduceEq, Int.reduceLT, Int.reduceLE, Int.reduceNeg, Int.reduceToNat, Int.reduceMul, Int.reduceAdd, Int.reduceSub, t0, t1, t10, t11, rowO, gs0, gs1, ws1, ws2] | simp (disch := (first | omega | (simp only [go_sem]; done) | (simp only [lens]; omega))) only [wrap_u8_id, wrap_u32_id, wrap_u64_id, wrap_i64_id, wrap_i32_id, tmod_nn, tdiv_nn, Int.toNat_natCast, bnd_nh, bnd_ln, bnd_lh, is_str, ix_sl, ir_ptr, ia_agg, tsC_cells, mk_ints, evb_sadd, decide_t, decide_f, hadd_ne', hset_ne', srcC_cells, ap_nil, ap_sl, apC_cells, goNSC_on, goNSC_end, stC_one, stC_agg, fillC_one, fillC_agg, part_t, box_one, box_agg, evb_quo, evb_rem, evb_shl, evb_shr, t0, t1, t10, t11, rowO, gs0, gs1, ws1, ws2])))
        exact ⟨_, Sub.refl, hq⟩
      · rw [if_neg (by omega)] at hq
        have hne' := hne (by omega)
        have gs0 := rowV_get (d := dA) (i := U0) (by omega)
        have gs1 := rowV_get (d := dA) (i := D0) (by omega)
        have ws1 := rowV_set (d := dA) (i := U0) (x := dA[D0]!) (by omega)
        have ws2 := swp_row (d := dA) (i := U0) (j := D0) (by omega) (by omega)
        have fits := rowV_len (dA.setIfInBounds (U0) dA[D0]!)
        rw [Array.size_setIfInBounds] at fits
        ((try simp -implicitDefEqProofs only [later, laterE, laterD, laterR]); (repeat (first | simp -implicitDefEqProofs only [go_sem, ↓reduceIte, Nat.reduceEqDiff, Nat.reduceAdd, Nat.reduceLeDiff, Nat.reduceLT, Nat.reduceMul, reduceCtorEq, Int.reduceEq, Int.reduceLT, Int.reduceLE, Int.reduceNeg, Int.reduceToNat, Int.reduceMul, Int.reduceAdd, Int.reduceSub, t0, t1, t10, t11, rowO, gs0, gs1, ws1, ws2] | simp (disch := (first | omega | (simp only [go_sem]; done) | (simp only [lens]; omega))) only [wrap_u8_id, wrap_u32_id, wrap_u64_id, wrap_i64_id, wrap_i32_id, tmod_nn, tdiv_nn, Int.toNat_natCast, bnd_nh, bnd_ln, bnd_lh, is_str, ix_sl, ir_ptr, ia_agg, tsC_cells, mk_ints, evb_sadd, decide_t, decide_f, hadd_ne', hset_ne', srcC_cells, ap_nil, ap_sl, apC_cells, goNSC_on, goNSC_end, stC_one, stC_agg, fillC_one, fillC_agg, part_t, box_one, box_agg, evb_quo, evb_rem, evb_shl, evb_shr, t0, t1, t10, t11, rowO, gs0, gs1, ws1, ws2])))
        generalize hPL : Go.Sort.partLoop ltStr a (U0 + 1) (D0 - 1) (swp dA U0 D0) = PL at *
        ((try simp -implicitDefEqProofs only [later, laterE, laterD, laterR]); (repeat (first | simp -implicitDefEqProofs only [go_sem, ↓reduceIte, Nat.reduceEqDiff, Nat.reduceAdd, Nat.reduceLeDiff, Nat.reduceLT, Nat.reduceMul, reduceCtorEq, Int.reduceEq, Int.reduceLT, Int.reduceLE, Int.reduceNeg, Int.reduceToNat, Int.reduceMul, Int.reduceAdd, Int.reduceSub, t0, t1, t10, t11] | simp (disch := (first | omega | (simp only [go_sem]; done) | (simp only [lens]; omega))) only [wrap_u8_id, wrap_u32_id, wrap_u64_id, wrap_i64_id, wrap_i32_id, tmod_nn, tdiv_nn, Int.toNat_natCast, bnd_nh, bnd_ln, bnd_lh, is_str, ix_sl, ir_ptr, ia_agg, tsC_cells, mk_ints, evb_sadd, decide_t, decide_f, hadd_ne', hset_ne', srcC_cells, ap_nil, ap_sl, apC_cells, goNSC_on, goNSC_end, stC_one, stC_agg, fillC_one, fillC_agg, part_t, box_one, box_agg, evb_quo, evb_rem, evb_shl, evb_shr, t0, t1, t10, t11])))
        refine E.loopX AC.mono (fun (x : Nat × Nat) a' h' => ∃ d1, a < x.1 ∧ x.1 ≤ x.2 + 1 ∧ x.2 < e ∧ h' = hadd h b (rowO d1) ∧ d1.size = n ∧ Go.Sort.partLoop ltStr a x.1 x.2 d1 = PL ∧ a'.d = [] ∧ a'.t 0 = .sl b 0 1 n ∧ a'.t 1 = .int .i64 a ∧ a'.t 10 = .int .i64 x.1 ∧ a'.t 11 = .int .i64 x.2) (fun x => x.2 + 1 - x.1) (U0 + 1, D0 - 1) ?_ ?_
        · refine ⟨swp dA U0 D0, by omega, by omega, by omega, rfl, by rw [swp_size]; exact hsA, hPL, ?_⟩
          ((try simp -implicitDefEqProofs only [later, laterE, laterD, laterR]); (repeat (first | simp -implicitDefEqProofs only [go_sem, ↓reduceIte, Nat.reduceEqDiff, Nat.reduceAdd, Nat.reduceLeDiff, Nat.reduceLT, Nat.reduceMul, reduceCtorEq, Int.reduceEq, Int.reduceLT, Int.reduceLE, Int.reduceNeg, Int.reduceToNat, Int.reduceMul, Int.reduceAdd, Int.reduceSub, t0, t1, t10, t11] | simp (disch := (first | omega | (simp only [go_sem]; done) | (simp only [lens]; omega))) only [wrap_u8_id, wrap_u32_id, wrap_u64_id, wrap_i64_id, wrap_i32_id, tmod_nn, tdiv_nn, Int.toNat_natCast, bnd_nh, bnd_ln, bnd_lh, is_str, ix_sl, ir_ptr, ia_agg, tsC_cells, mk_ints, evb_sadd, decide_t, decide_f, hadd_ne', hset_ne', srcC_cells, ap_nil, ap_sl, apC_cells, goNSC_on, goNSC_end, stC_one, stC_agg, fillC_one, fillC_agg, part_t, box_one, box_agg, evb_quo, evb_rem, evb_shl, evb_shr, t0, t1, t10, t11])))
          ((repeat' apply And.intro) <;> (first | omega | rfl | assumption | (congr 1 <;> omega) | skip))
        · rintro ⟨i, j⟩ ⟨t, ds⟩ h' ⟨d1, hi1, hij, hje, rfl, hs, hI, hd, t0, t1, t10, t11⟩
          simp only at hi1 hij hje hI hd t0 t1 t10 t11; subst hd
          simp only
          rw [Go.Sort.partLoop_eq] at hI
          have fit := rowV_len d1
          have ga := rowV_get (d := d1) (i := a) (by omega)
          generalize hU : scanUp (fun x => ltStr x d1[a]!) d1 j i = U at *
          have hU1 : i ≤ U := by rw [← hU]; exact Go.Sort.scanUp_ge _ _ _ _
          have hU2 : U ≤ j + 1 := by rw [← hU]; exact scanUp_le _ _ _ _ _ (Nat.le_refl _) hij
          have hUf := (Go.Sort.scanUp_spec (fun x => ltStr x d1[a]!) d1 (j) _ (i) rfl).2.2.2
          rw [hU] at hUf
          have hDf := (Go.Sort.scanDown_spec (fun x => !ltStr x d1[a]!) d1 U (j)).2
          generalize hD : scanDown (fun x => !ltStr x d1[a]!) d1 U (j) = D at *
          have hD1 : D ≤ j := by rw [← hD]; exact Go.Sort.scanDown_le _ _ _ _
          have hD2 : U ≤ D + 1 := hDf.1 (by omega)
          have hne : ¬ D < U → U ≠ D := fun hlt e => by
            have x1 := hUf (by omega)
            have x2 := hDf.2.2 (by omega) (by omega)
            rw [e] at x1
            rw [x1] at x2; cases x2
          ((try simp -implicitDefEqProofs only [later, laterE, laterD, laterR]); (repeat (first | simp -implicitDefEqProofs only [go_sem, ↓reduceIte, Nat.reduceEqDiff, Nat.reduceAdd, Nat.reduceLeDiff, Nat.reduceLT, Nat.reduceMul, reduceCtorEq, Int.reduceEq, Int.reduceLT, Int.reduceLE, Int.reduceNeg, Int.reduceToNat, Int.reduceMul, Int.reduceAdd, Int.reduceSub, t0, t1, t10, t11] | simp (disch := (first | omega | (simp only [go_sem]; done) | (simp only [lens]; omega))) only [wrap_u8_id, wrap_u32_id, wrap_u64_id, wrap_i64_id, wrap_i32_id, tmod_nn, tdiv_nn, Int.toNat_natCast, bnd_nh, bnd_ln, bnd_lh, is_str, ix_sl, ir_ptr, ia_agg, tsC_cells, mk_ints, evb_sadd, decide_t, decide_f, hadd_ne', hset_ne', srcC_cells, ap_nil, ap_sl, apC_cells, goNSC_on, goNSC_end, stC_one, stC_agg, fillC_one, fillC_agg, part_t, box_one, box_agg, evb_quo, evb_rem, evb_shl, evb_shr, t0, t1, t10, t11])))
          refine E.cut AC.mono (fun ex a' h' => ex = .exit 6 ∧ h' = hadd h b (rowO d1) ∧ a'.d = [] ∧ a'.t 0 = .sl b 0 1 n ∧ a'.t 1 = .int .i64 a ∧ a'.t 10 = .int .i64 U ∧ a'.t 11 = .int .i64 j) ?_ ?_
          · refine E.loopX AC.mono (fun (k : Nat) a' h' => i ≤ k ∧ k ≤ j + 1 ∧ h' = hadd h b (rowO d1) ∧ scanUp (fun x => ltStr x d1[a]!) d1 j k = U ∧ a'.d = [] ∧ a'.t 0 = .sl b 0 1 n ∧ a'.t 1 = .int .i64 a ∧ a'.t 10 = .int .i64 k ∧ a'.t 11 = .int .i64 j) (fun k => j + 1 - k) i ?_ ?_
            · refine ⟨Nat.le_refl _, hij, rfl, hU, ?_⟩
              ((try simp -implicitDefEqProofs only [later, laterE, laterD, laterR]); (repeat (first | simp -implicitDefEqProofs only [go_sem, ↓reduceIte, Nat.reduceEqDiff, Nat.reduceAdd, Nat.reduceLeDiff, Nat.reduceLT, Nat.reduceMul, reduceCtorEq, Int.reduceEq, Int.reduceLT, Int.reduceLE, Int.reduceNeg, Int.reduceToNat, Int.reduceMul, Int.reduceAdd, Int.reduceSub, t0, t1, t10, t11] | simp (disch := (first | omega | (simp only [go_sem]; done) | (simp only [lens]; omega))) only [wrap_u8_id, wrap_u32_id, wrap_u64_id, wrap_i64_id, wrap_i32_id, tmod_nn, tdiv_nn, Int.toNat_natCast, bnd_nh, bnd_ln, bnd_lh, is_str, ix_sl, ir_ptr, ia_agg, tsC_cells, mk_ints, evb_sadd, decide_t, decide_f, hadd_ne', hset_ne', srcC_cells, ap_nil, ap_sl, apC_cells, goNSC_on, goNSC_end, stC_one, stC_agg, fillC_one, fillC_agg, part_t, box_one, box_agg, evb_quo, evb_rem, evb_shl, evb_shr, t0, t1, t10, t11])))
              try ((repeat' apply And.intro) <;> (first | omega | rfl | assumption | (congr 1 <;> omega) | skip))
            · rintro k ⟨t, ds⟩ h' ⟨hk1, hk2, rfl, hK, hd, t0, t1, t10, t11⟩
              simp only at hd t0 t1 t10 t11; subst hd
              rw [scanUp] at hK
              by_cases ck : (k : Int) ≤ j
              · have gk := rowV_get (d := d1) (i := k) (by omega)
                ((try simp -implicitDefEqProofs only [later, laterE, laterD, laterR]); (repeat (first | simp -implicitDefEqProofs only [go_sem, ↓reduceIte, Nat.reduceEqDiff, Nat.reduceAdd, Nat.reduceLeDiff, Nat.reduceLT, Nat.reduceMul, reduceCtorEq, Int.reduceEq, Int.reduceLT, Int.reduceLE, Int.reduceNeg, Int.reduceToNat, Int.reduceMul, Int.reduceAdd, Int.reduceSub, t0, t1, t10, t11, rowO, ga, gk] | simp (disch := (first | omega | (simp only [go_sem]; done) | (simp only [lens]; omega))) only [wrap_u8_id, wrap_u32_id, wrap_u64_id, wrap_i64_id, wrap_i32_id, tmod_nn, tdiv_nn, Int.toNat_natCast, bnd_nh, bnd_ln, bnd_lh, is_str, ix_sl, ir_ptr, ia_agg, tsC_cells, mk_ints, evb_sadd, decide_t, decide_f, hadd_ne', hset_ne', srcC_cells, ap_nil, ap_sl, apC_cells, goNSC_on, goNSC_end, stC_one, stC_agg, fillC_one, fillC_agg, part_t, box_one, box_agg, evb_quo, evb_rem, evb_shl, evb_shr, t0, t1, t10, t11, rowO, ga, gk])))
                refine less_ac _ _ ?_
                cases hlt : ltStr d1[k]! d1[a]!
                · rw [hlt, Bool.and_false, if_neg (by decide)] at hK
                  subst hK
                  ((try simp -implicitDefEqProofs only [later, laterE, laterD, laterR]); (repeat (first | simp -implicitDefEqProofs only [go_sem, ↓reduceIte, Nat.reduceEqDiff, Nat.reduceAdd, Nat.reduceLeDiff, Nat.reduceLT, Nat.reduceMul, reduceCtorEq, Int.reduceEq, Int.reduceLT, Int.reduceLE, Int.reduceNeg, Int.reduceToNat, Int.reduceMul, Int.reduceAdd, Int.reduceSub, t0, t1, t10, t11] | simp (disch := (first | omega | (simp only [go_sem]; done) | (simp only [lens]; omega))) only [wrap_u8_id, wrap_u32_id, wrap_u64_id, wrap_i64_id, wrap_i32_id, tmod_nn, tdiv_nn, Int.toNat_natCast, bnd_nh, bnd_ln, bnd_lh, is_str, ix_sl, ir_ptr, ia_agg, tsC_cells, mk_ints, evb_sadd, decide_t, decide_f, hadd_ne', hset_ne', srcC_cells, ap_nil, ap_sl, apC_cells, goNSC_on, goNSC_end, stC_one, stC_agg, fillC_one, fillC_agg, part_t, box_one, box_agg, evb_quo, evb_rem, evb_shl, evb_shr, t0, t1, t10, t11])))
                · rw [hlt, decide_eq_true (show k ≤ j by omega), if_pos (by decide)] at hK
                  ((try simp -implicitDefEqProofs only [later, laterE, laterD, laterR]); (repeat (first | simp -implicitDefEqProofs only [go_sem, ↓reduceIte, Nat.reduceEqDiff, Nat.reduceAdd, Nat.reduceLeDiff, Nat.reduceLT, Nat.reduceMul, reduceCtorEq, Int.reduceEq, Int.reduceLT, Int.reduceLE, Int.reduceNeg, Int.reduceToNat, Int.reduceMul, Int.reduceAdd, Int.reduceSub, t0, t1, t10, t11] | simp (disch := (first | omega | (simp only [go_sem]; done) | (simp only [lens]; omega))) only [wrap_u8_id, wrap_u32_id, wrap_u64_id, wrap_i64_id, wrap_i32_id, tmod_nn, tdiv_nn, Int.toNat_natCast, bnd_nh, bnd_ln, bnd_lh, is_str, ix_sl, ir_ptr, ia_agg, tsC_cells, mk_ints, evb_sadd, decide_t, decide_f, hadd_ne', hset_ne', srcC_cells, ap_nil, ap_sl, apC_cells, goNSC_on, goNSC_end, stC_one, stC_agg, fillC_one, fillC_agg, part_t, box_one, box_agg, evb_quo, evb_rem, evb_shl, evb_shr, t0, t1, t10, t11])))
                  refine ⟨k + 1, ?_⟩
                  ((try simp -implicitDefEqProofs only [later, laterE, laterD, laterR]); (repeat (first | simp -implicitDefEqProofs only [go_sem, ↓reduceIte, Nat.reduceEqDiff, Nat.reduceAdd, Nat.reduceLeDiff, Nat.reduceLT, Nat.reduceMul, reduceCtorEq, Int.reduceEq, Int.reduceLT, Int.reduceLE, Int.reduceNeg, Int.reduceToNat, Int.reduceMul, Int.reduceAdd, Int.reduceSub, t0, t1, t10, t11] | simp (disch := (first | omega | (simp only [go_sem]; done) | (simp only [lens]; omega))) only [wrap_u8_id, wrap_u32_id, wrap_u64_id, wrap_i64_id, wrap_i32_id, tmod_nn, tdiv_nn, Int.toNat_natCast, bnd_nh, bnd_ln, bnd_lh, is_str, ix_sl, ir_ptr, ia_agg, tsC_cells, mk_ints, evb_sadd, decide_t, decide_f, hadd_ne', hset_ne', srcC_cells, ap_nil, ap_sl, apC_cells, goNSC_on, goNSC_end, stC_one, stC_agg, fillC_one, fillC_agg, part_t, box_one, box_agg, evb_quo, evb_rem, evb_shl, evb_shr, t0, t1, t10, t11])))
                  refine ⟨by omega, by omega, by omega, hK, ?_⟩
                  ((repeat' apply And.intro) <;> (first | omega | rfl | assumption | (congr 1 <;> omega) | skip))
              · rw [decide_eq_false (show ¬ k ≤ j by omega), Bool.false_and, if_neg (by decide)] at hK
                subst hK
                ((try simp -implicitDefEqProofs only [later, laterE, laterD, laterR]); (repeat (first | simp -implicitDefEqProofs only [go_sem, ↓reduceIte, Nat.reduceEqDiff, Nat.reduceAdd, Nat.reduceLeDiff, Nat.reduceLT, Nat.reduceMul, reduceCtorEq, Int.reduceEq, Int.reduceLT, Int.reduceLE, Int.reduceNeg, Int.reduceToNat, Int.reduceMul, Int.reduceAdd, Int.reduceSub, t0, t1, t10, t11] | simp (disch := (first | omega | (simp only [go_sem]; done) | (simp only [lens]; omega))) only [wrap_u8_id, wrap_u32_id, wrap_u64_id, wrap_i64_id, wrap_i32_id, tmod_nn, tdiv_nn, Int.toNat_natCast, bnd_nh, bnd_ln, bnd_lh, is_str, ix_sl, ir_ptr, ia_agg, tsC_cells, mk_ints, evb_sadd, decide_t, decide_f, hadd_ne', hset_ne', srcC_cells, ap_nil, ap_sl, apC_cells, goNSC_on, goNSC_end, stC_one, stC_agg, fillC_one, fillC_agg, part_t, box_one, box_agg, evb_quo, evb_rem, evb_shl, evb_shr, t0, t1, t10, t11])))
          · rintro ex ⟨t, ds⟩ h' ⟨rfl, rfl, hd, t0, t1, t10, t11⟩
            simp only at hd t0 t1 t10 t11; subst hd
            ((try simp -implicitDefEqProofs only [later, laterE, laterD, laterR]); (repeat (first | simp -implicitDefEqProofs only [go_sem, ↓reduceIte, Nat.reduceEqDiff, Nat.reduceAdd, Nat.reduceLeDiff, Nat.reduceLT, Nat.reduceMul, reduceCtorEq, Int.reduceEq, Int.reduceLT, Int.reduceLE, Int.reduceNeg, Int.reduceToNat, Int.reduceMul, Int.reduceAdd, Int.reduceSub, t0, t1, t10, t11] | simp (disch := (first | omega | (simp only [go_sem]; done) | (simp only [lens]; omega))) only [wrap_u8_id, wrap_u32_id, wrap_u64_id, wrap_i64_id, wrap_i32_id, tmod_nn, tdiv_nn, Int.toNat_natCast, bnd_nh, bnd_ln, bnd_lh, is_str, ix_sl, ir_ptr, ia_agg, tsC_cells, mk_ints, evb_sadd, decide_t, decide_f, hadd_ne', hset_ne', srcC_cells, ap_nil, ap_sl, apC_cells, goNSC_on, goNSC_end, stC_one, stC_agg, fillC_one, fillC_agg, part_t, box_one, box_agg, evb_quo, evb_rem, evb_shl, evb_shr, t0, t1, t10, t11])))
            refine E.cut AC.mono (fun ex a' h' => ex = .exit 8 ∧ h' = hadd h b (rowO d1) ∧ a'.d = [] ∧ a'.t 0 = .sl b 0 1 n ∧ a'.t 1 = .int .i64 a ∧ a'.t 10 = .int .i64 U ∧ a'.t 11 = .int .i64 D) ?_ ?_
            · refine E.loopX AC.mono (fun (k : Nat) a' h' => k ≤ j ∧ h' = hadd h b (rowO d1) ∧ scanDown (fun x => !ltStr x d1[a]!) d1 U k = D ∧ a'.d = [] ∧ a'.t 0 = .sl b 0 1 n ∧ a'.t 1 = .int .i64 a ∧ a'.t 10 = .int .i64 U ∧ a'.t 11 = .int .i64 k) (fun k => k) (j) ?_ ?_
              · refine ⟨Nat.le_refl _, rfl, hD, ?_⟩
                ((try simp -implicitDefEqProofs only [later, laterE, laterD, laterR]); (repeat (first | simp -implicitDefEqProofs only [go_sem, ↓reduceIte, Nat.reduceEqDiff, Nat.reduceAdd, Nat.reduceLeDiff, Nat.reduceLT, Nat.reduceMul, reduceCtorEq, Int.reduceEq, Int.reduceLT, Int.reduceLE, Int.reduceNeg, Int.reduceToNat, Int.reduceMul, Int.reduceAdd, Int.reduceSub, t0, t1, t10, t11] | simp (disch := (first | omega | (simp only [go_sem]; done) | (simp only [lens]; omega))) only [wrap_u8_id, wrap_u32_id, wrap_u64_id, wrap_i64_id, wrap_i32_id, tmod_nn, tdiv_nn, Int.toNat_natCast, bnd_nh, bnd_ln, bnd_lh, is_str, ix_sl, ir_ptr, ia_agg, tsC_cells, mk_ints, evb_sadd, decide_t, decide_f, hadd_ne', hset_ne', srcC_cells, ap_nil, ap_sl, apC_cells, goNSC_on, goNSC_end, stC_one, stC_agg, fillC_one, fillC_agg, part_t, box_one, box_agg, evb_quo, evb_rem, evb_shl, evb_shr, t0, t1, t10, t11])))
              · rintro k ⟨t, ds⟩ h' ⟨hk, rfl, hK, hd, t0, t1, t10, t11⟩
                simp only at hd t0 t1 t10 t11; subst hd
                cases k with
                | zero =>
                  rw [scanDown] at hK
                  subst hK
                  have ck : ¬ (U : Int) ≤ ((0 : Nat) : Int) := by omega
                  ((try simp -implicitDefEqProofs only [later, laterE, laterD, laterR]); (repeat (first | simp -implicitDefEqProofs only [go_sem, ↓reduceIte, Nat.reduceEqDiff, Nat.reduceAdd, Nat.reduceLeDiff, Nat.reduceLT, Nat.reduceMul, reduceCtorEq, Int.reduceEq, Int.reduceLT, Int.reduceLE, Int.reduceNeg, Int.reduceToNat, Int.reduceMul, Int.reduceAdd, Int.reduceSub, t0, t1, t10, t11] | simp (disch := (first | omega | (simp only [go_sem]; done) | (simp only [lens]; omega))) only [wrap_u8_id, wrap_u32_id, wrap_u64_id, wrap_i64_id, wrap_i32_id, tmod_nn, tdiv_nn, Int.toNat_natCast, bnd_nh, bnd_ln, bnd_lh, is_str, ix_sl, ir_ptr, ia_agg, tsC_cells, mk_ints, evb_sadd, decide_t, decide_f, hadd_ne', hset_ne', srcC_cells, ap_nil, ap_sl, apC_cells, goNSC_on, goNSC_end, stC_one, stC_agg, fillC_one, fillC_agg, part_t, box_one, box_agg, evb_quo, evb_rem, evb_shl, evb_shr, t0, t1, t10, t11])))
                | succ k =>
                  rw [scanDown] at hK
                  by_cases ck : (U : Int) ≤ ((k + 1 : Nat) : Int)
                  · have gk := rowV_get (d := d1) (i := k + 1) (by omega)
                    ((try simp -implicitDefEqProofs only [later, laterE, laterD, laterR]); (repeat (first | simp -implicitDefEqProofs only [go_sem, ↓reduceIte, Nat.reduceEqDiff, Nat.reduceAdd, Nat.reduceLeDiff, Nat.reduceLT, Nat.reduceMul, reduceCtorEq, Int.reduceEq, Int.reduceLT, Int.reduceLE, Int.reduceNeg, Int.reduceToNat, Int.reduceMul, Int.reduceAdd, Int.reduceSub, t0, t1, t10, t11, rowO, ga, gk] | simp (disch := (first | omega | (simp only [go_sem]; done) | (simp only [lens]; omega))) only [wrap_u8_id, wrap_u32_id, wrap_u64_id, wrap_i64_id, wrap_i32_id, tmod_nn, tdiv_nn, Int.toNat_natCast, bnd_nh, bnd_ln, bnd_lh, is_str, ix_sl, ir_ptr, ia_agg, tsC_cells, mk_ints, evb_sadd, decide_t, decide_f, hadd_ne', hset_ne', srcC_cells, ap_nil, ap_sl, apC_cells, goNSC_on, goNSC_end, stC_one, stC_agg, fillC_one, fillC_agg, part_t, box_one, box_agg, evb_quo, evb_rem, evb_shl, evb_shr, t0, t1, t10, t11, rowO, ga, gk])))
                    refine less_ac _ _ ?_
                    cases hlt : ltStr d1[k + 1]! d1[a]!
                    · rw [hlt, decide_eq_true (show U ≤ k + 1 by omega), if_pos (by decide)] at hK
                      ((try simp -implicitDefEqProofs only [later, laterE, laterD, laterR]); (repeat (first | simp -implicitDefEqProofs only [go_sem, ↓reduceIte, Nat.reduceEqDiff, Nat.reduceAdd, Nat.reduceLeDiff, Nat.reduceLT, Nat.reduceMul, reduceCtorEq, Int.reduceEq, Int.reduceLT, Int.reduceLE, Int.reduceNeg, Int.reduceToNat, Int.reduceMul, Int.reduceAdd, Int.reduceSub, t0, t1, t10, t11] | simp (disch := (first | omega | (simp only [go_sem]; done) | (simp only [lens]; omega))) only [wrap_u8_id, wrap_u32_id, wrap_u64_id, wrap_i64_id, wrap_i32_id, tmod_nn, tdiv_nn, Int.toNat_natCast, bnd_nh, bnd_ln, bnd_lh, is_str, ix_sl, ir_ptr, ia_agg, tsC_cells, mk_ints, evb_sadd, decide_t, decide_f, hadd_ne', hset_ne', srcC_cells, ap_nil, ap_sl, apC_cells, goNSC_on, goNSC_end, stC_one, stC_agg, fillC_one, fillC_agg, part_t, box_one, box_agg, evb_quo, evb_rem, evb_shl, evb_shr, t0, t1, t10, t11])))
                      refine ⟨k, ?_⟩
                      ((try simp -implicitDefEqProofs only [later, laterE, laterD, laterR]); (repeat (first | simp -implicitDefEqProofs only [go_sem, ↓reduceIte, Nat.reduceEqDiff, Nat.reduceAdd, Nat.reduceLeDiff, Nat.reduceLT, Nat.reduceMul, reduceCtorEq, Int.reduceEq, Int.reduceLT, Int.reduceLE, Int.reduceNeg, Int.reduceToNat, Int.reduceMul, Int.reduceAdd, Int.reduceSub, t0, t1, t10, t11] | simp (disch := (first | omega | (simp only [go_sem]; done) | (simp only [lens]; omega))) only [wrap_u8_id, wrap_u32_id, wrap_u64_id, wrap_i64_id, wrap_i32_id, tmod_nn, tdiv_nn, Int.toNat_natCast, bnd_nh, bnd_ln, bnd_lh, is_str, ix_sl, ir_ptr, ia_agg, tsC_cells, mk_ints, evb_sadd, decide_t, decide_f, hadd_ne', hset_ne', srcC_cells, ap_nil, ap_sl, apC_cells, goNSC_on, goNSC_end, stC_one, stC_agg, fillC_one, fillC_agg, part_t, box_one, box_agg, evb_quo, evb_rem, evb_shl, evb_shr, t0, t1, t10, t11])))
                      refine ⟨by omega, by omega, hK, ?_⟩
                      ((repeat' apply And.intro) <;> (first | omega | rfl | assumption | (congr 1 <;> omega) | skip))
                    · rw [hlt, Bool.not_true, Bool.and_false, if_neg (by decide)] at hK
                      subst hK
                      ((try simp -implicitDefEqProofs only [later, laterE, laterD, laterR]); (repeat (first | simp -implicitDefEqProofs only [go_sem, ↓reduceIte, Nat.reduceEqDiff, Nat.reduceAdd, Nat.reduceLeDiff, Nat.reduceLT, Nat.reduceMul, reduceCtorEq, Int.reduceEq, Int.reduceLT, Int.reduceLE, Int.reduceNeg, Int.reduceToNat, Int.reduceMul, Int.reduceAdd, Int.reduceSub, t0, t1, t10, t11] | simp (disch := (first | omega | (simp only [go_sem]; done) | (simp only [lens]; omega))) only [wrap_u8_id, wrap_u32_id, wrap_u64_id, wrap_i64_id, wrap_i32_id, tmod_nn, tdiv_nn, Int.toNat_natCast, bnd_nh, bnd_ln, bnd_lh, is_str, ix_sl, ir_ptr, ia_agg, tsC_cells, mk_ints, evb_sadd, decide_t, decide_f, hadd_ne', hset_ne', srcC_cells, ap_nil, ap_sl, apC_cells, goNSC_on, goNSC_end, stC_one, stC_agg, fillC_one, fillC_agg, part_t, box_one, box_agg, evb_quo, evb_rem, evb_shl, evb_shr, t0, t1, t10, t11])))
                  · rw [decide_eq_false (show ¬ U ≤ k + 1 by omega), Bool.false_and, if_neg (by decide)] at hK
                    subst hK
                    ((try simp -implicitDefEqProofs only [later, laterE, laterD, laterR]); (repeat (first | simp -implicitDefEqProofs only [go_sem, ↓reduceIte, Nat.reduceEqDiff, Nat.reduceAdd, Nat.reduceLeDiff, Nat.reduceLT, Nat.reduceMul, reduceCtorEq, Int.reduceEq, Int.reduceLT, Int.reduceLE, Int.reduceNeg, Int.reduceToNat, Int.reduceMul, Int.reduceAdd, Int.reduceSub, t0, t1, t10, t11] | simp (disch := (first | omega | (simp only [go_sem]; done) | (simp only [lens]; omega))) only [wrap_u8_id, wrap_u32_id, wrap_u64_id, wrap_i64_id, wrap_i32_id, tmod_nn, tdiv_nn, Int.toNat_natCast, bnd_nh, bnd_ln, bnd_lh, is_str, ix_sl, ir_ptr, ia_agg, tsC_cells, mk_ints, evb_sadd, decide_t, decide_f, hadd_ne', hset_ne', srcC_cells, ap_nil, ap_sl, apC_cells, goNSC_on, goNSC_end, stC_one, stC_agg, fillC_one, fillC_agg, part_t, box_one, box_agg, evb_quo, evb_rem, evb_shl, evb_shr, t0, t1, t10, t11])))
            · rintro ex ⟨t, ds⟩ h' ⟨rfl, rfl, hd, t0, t1, t10, t11⟩
              simp only at hd t0 t1 t10 t11; subst hd
              by_cases c : (D : Int) < U
              · rw [if_pos (by omega)] at hI
                rw [← hI] at hq
                have gs0 := rowV_get (d := d1) (i := D) (by omega)
                have gs1 := rowV_get (d := d1) (i := a) (by omega)
                have ws1 := rowV_set (d := d1) (i := D) (x := d1[a]!) (by omega)
                have ws2 := swp_row (d := d1) (i := D) (j := a) (by omega) (by omega)
                have fits := rowV_len (d1.setIfInBounds (D) d1[a]!)
                rw [Array.size_setIfInBounds] at fits
                ((try simp -implicitDefEqProofs only [later, laterE, laterD, laterR]); (repeat (first | simp -implicitDefEqProofs only [go_sem, ↓reduceIte, Nat.reduceEqDiff, Nat.reduceAdd, Nat.reduceLeDiff, Nat.reduceLT, Nat.reduceMul, reduceCtorEq, Int.reduceEq, Int.reduceLT, Int.reduceLE, Int.reduceNeg, Int.reduceToNat, Int.reduceMul, Int.reduceAdd, Int.reduceSub, t0, t1, t10, t11, rowO, gs0, gs1, ws1, ws2] | simp (disch := (first | omega | (simp only [go_sem]; done) | (simp only [lens]; omega))) only [wrap_u8_id, wrap_u32_id, wrap_u64_id, wrap_i64_id, wrap_i32_id, tmod_nn, tdiv_nn, Int.toNat_natCast, bnd_nh, bnd_ln, bnd_lh, is_str, ix_sl, ir_ptr, ia_agg, tsC_cells, mk_ints, evb_sadd, decide_t, decide_f, hadd_ne', hset_ne', srcC_cells, ap_nil, ap_sl, apC_cells, goNSC_on, goNSC_end, stC_one, stC_agg, fillC_one, fillC_agg, part_t, box_one, box_agg, evb_quo, evb_rem, evb_shl, evb_shr, t0, t1, t10, t11, rowO, gs0, gs1, ws1, ws2])))
                exact ⟨_, Sub.refl, hq⟩
              · rw [if_neg (by omega)] at hI
                have hne' := hne (by omega)
                have gs0 := rowV_get (d := d1) (i := U) (by omega)
                have gs1 := rowV_get (d := d1) (i := D) (by omega)
                have ws1 := rowV_set (d := d1) (i := U) (x := d1[D]!) (by omega)
                have ws2 := swp_row (d := d1) (i := U) (j := D) (by omega) (by omega)
                have fits := rowV_len (d1.setIfInBounds (U) d1[D]!)
                rw [Array.size_setIfInBounds] at fits
                ((try simp -implicitDefEqProofs only [later, laterE, laterD, laterR]); (repeat (first | simp -implicitDefEqProofs only [go_sem, ↓reduceIte, Nat.reduceEqDiff, Nat.reduceAdd, Nat.reduceLeDiff, Nat.reduceLT, Nat.reduceMul, reduceCtorEq, Int.reduceEq, Int.reduceLT, Int.reduceLE, Int.reduceNeg, Int.reduceToNat, Int.reduceMul, Int.reduceAdd, Int.reduceSub, t0, t1, t10, t11, rowO, gs0, gs1, ws1, ws2] | simp (disch := (first | omega | (simp only [go_sem]; done) | (simp only [lens]; omega))) only [wrap_u8_id, wrap_u32_id, wrap_u64_id, wrap_i64_id, wrap_i32_id, tmod_nn, tdiv_nn, Int.toNat_natCast, bnd_nh, bnd_ln, bnd_lh, is_str, ix_sl, ir_ptr, ia_agg, tsC_cells, mk_ints, evb_sadd, decide_t, decide_f, hadd_ne', hset_ne', srcC_cells, ap_nil, ap_sl, apC_cells, goNSC_on, goNSC_end, stC_one, stC_agg, fillC_one, fillC_agg, part_t, box_one, box_agg, evb_quo, evb_rem, evb_shl, evb_shr, t0, t1, t10, t11, rowO, gs0, gs1, ws1, ws2])))
                refine ⟨(U + 1, D - 1), ?_⟩
                ((try simp -implicitDefEqProofs only [later, laterE, laterD, laterR]); (repeat (first | simp -implicitDefEqProofs only [go_sem, ↓reduceIte, Nat.reduceEqDiff, Nat.reduceAdd, Nat.reduceLeDiff, Nat.reduceLT, Nat.reduceMul, reduceCtorEq, Int.reduceEq, Int.reduceLT, Int.reduceLE, Int.reduceNeg, Int.reduceToNat, Int.reduceMul, Int.reduceAdd, Int.reduceSub, t0, t1, t10, t11] | simp (disch := (first | omega | (simp only [go_sem]; done) | (simp only [lens]; omega))) only [wrap_u8_id, wrap_u32_id, wrap_u64_id, wrap_i64_id, wrap_i32_id, tmod_nn, tdiv_nn, Int.toNat_natCast, bnd_nh, bnd_ln, bnd_lh, is_str, ix_sl, ir_ptr, ia_agg, tsC_cells, mk_ints, evb_sadd, decide_t, decide_f, hadd_ne', hset_ne', srcC_cells, ap_nil, ap_sl, apC_cells, goNSC_on, goNSC_end, stC_one, stC_agg, fillC_one, fillC_agg, part_t, box_one, box_agg, evb_quo, evb_rem, evb_shl, evb_shr, t0, t1, t10, t11])))
                refine ⟨by omega, swp d1 U D, by omega, by omega, by omega, rfl, by rw [swp_size]; exact hs, hI, ?_⟩
                ((repeat' apply And.intro) <;> (first | omega | rfl | assumption | (congr 1 <;> omega) | skip))
end Go.Proofs.Ytijipnkdabdioaa
