/- Sorting, 1: rows of texts, insertion, the heap, partial insertion; shifts. -/
import Derived.Test.YtijipnkdabdioaaP
import Derived.Test.YtijipnkdabdioaaMir34
import Derived.Sort.AssemblyPlain
set_option linter.unusedSimpArgs false
set_option linter.unusedVariables false
namespace Go.Proofs.Ytijipnkdabdioaa
open Mir
abbrev Txts := Array (List UInt8)
def rowV (d : Txts) : List V := d.toList.map V.str
def rowO (d : Txts) : AObj := .cells (rowV d) false
theorem rowV_len (d : Txts) : (rowV d).length = d.size := by simp [rowV]
theorem rowV_get {d : Txts} {i : Nat} (h : i < d.size) : (rowV d)[i]? = some (.str d[i]!) := by
  simp [rowV, h]
theorem rowV_get0 {d : Txts} {i j : Nat} (h : i < d.size) (e : j = i) : (rowV d)[j]? = some (.str d[i]!) := by
  subst e; exact rowV_get h
theorem rowV_set {d : Txts} {i : Nat} {x : List UInt8} (h : i < d.size) : (rowV d).take i ++ [V.str x] ++ (rowV d).drop (i + 1) = rowV (d.setIfInBounds i x) := by
  simp only [rowV, Array.toList_setIfInBounds, List.map_set]
  rw [List.set_eq_take_append_cons_drop, if_pos (by simpa using h)]
  simp
theorem bytesLess_eq : ∀ (x y : List UInt8), Op.bytesLess x y = decide (x < y)
  | [], [] => by simp [Op.bytesLess]
  | _ :: _, [] => by simp [Op.bytesLess]
  | [], _ :: _ => by simp [Op.bytesLess]
  | a :: x, b :: y => by
    rw [Op.bytesLess, bytesLess_eq x y]
    simp only [List.cons_lt_cons_iff]
    by_cases h1 : a < b <;> by_cases h2 : a = b <;> by_cases h3 : x < y <;> simp [h1, h2, h3]
variable {h : H} {Q : V → H → Prop} {b n : Nat} {d : Txts}
open Go.Sort (ltStr swp)
theorem less_ac (x y : Txt) (hq : Q (.bool (ltStr x y)) h) : AC pg (.fn 75) [.str x, .str y] h Q := by
  refine AC.fn' (g := g75) rfl (by simp only [List.length_cons, List.length_nil, g75]; decide) ?_; simp only [g75]
  ((try simp -implicitDefEqProofs only [later, laterE, laterD, laterR]); (repeat (first | simp -implicitDefEqProofs only [go_sem, ↓reduceIte, Nat.reduceEqDiff, Nat.reduceAdd, Nat.reduceLeDiff, Nat.reduceLT, Nat.reduceMul, reduceCtorEq, Int.reduceEq, Int.reduceLT, Int.reduceLE, Int.reduceNeg, Int.reduceToNat, Int.reduceMul, Int.reduceAdd, Int.reduceSub] | simp (disch := (first | omega | (simp only [go_sem]; done) | (simp only [lens]; omega))) only [wrap_u8_id, wrap_u32_id, wrap_u64_id, wrap_i64_id, wrap_i32_id, tmod_nn, tdiv_nn, Int.toNat_natCast, bnd_nh, bnd_ln, bnd_lh, is_str, ix_sl, ir_ptr, ia_agg, tsC_cells, mk_ints, evb_sadd, decide_t, decide_f, hadd_ne', hset_ne', srcC_cells, ap_nil, ap_sl, apC_cells, goNSC_on, goNSC_end, stC_one, stC_agg, fillC_one, fillC_agg, part_t, box_one, box_agg, evb_quo, evb_rem, evb_shl, evb_shr])))
  refine AC.fn' (g := g85) rfl (by simp only [List.length_cons, List.length_nil, g85]; decide) ?_; simp only [g85]
  ((try simp -implicitDefEqProofs only [later, laterE, laterD, laterR]); (repeat (first | simp -implicitDefEqProofs only [go_sem, ↓reduceIte, Nat.reduceEqDiff, Nat.reduceAdd, Nat.reduceLeDiff, Nat.reduceLT, Nat.reduceMul, reduceCtorEq, Int.reduceEq, Int.reduceLT, Int.reduceLE, Int.reduceNeg, Int.reduceToNat, Int.reduceMul, Int.reduceAdd, Int.reduceSub, not_true_eq_false, decide_false] | simp (disch := (first | omega | (simp only [go_sem]; done) | (simp only [lens]; omega))) only [wrap_u8_id, wrap_u32_id, wrap_u64_id, wrap_i64_id, wrap_i32_id, tmod_nn, tdiv_nn, Int.toNat_natCast, bnd_nh, bnd_ln, bnd_lh, is_str, ix_sl, ir_ptr, ia_agg, tsC_cells, mk_ints, evb_sadd, decide_t, decide_f, hadd_ne', hset_ne', srcC_cells, ap_nil, ap_sl, apC_cells, goNSC_on, goNSC_end, stC_one, stC_agg, fillC_one, fillC_agg, part_t, box_one, box_agg, evb_quo, evb_rem, evb_shl, evb_shr, not_true_eq_false, decide_false])))
  refine ⟨h, Sub.refl, ?_⟩
  ((try simp -implicitDefEqProofs only [later, laterE, laterD, laterR]); (repeat (first | simp -implicitDefEqProofs only [go_sem, ↓reduceIte, Nat.reduceEqDiff, Nat.reduceAdd, Nat.reduceLeDiff, Nat.reduceLT, Nat.reduceMul, reduceCtorEq, Int.reduceEq, Int.reduceLT, Int.reduceLE, Int.reduceNeg, Int.reduceToNat, Int.reduceMul, Int.reduceAdd, Int.reduceSub, bytesLess_eq] | simp (disch := (first | omega | (simp only [go_sem]; done) | (simp only [lens]; omega))) only [wrap_u8_id, wrap_u32_id, wrap_u64_id, wrap_i64_id, wrap_i32_id, tmod_nn, tdiv_nn, Int.toNat_natCast, bnd_nh, bnd_ln, bnd_lh, is_str, ix_sl, ir_ptr, ia_agg, tsC_cells, mk_ints, evb_sadd, decide_t, decide_f, hadd_ne', hset_ne', srcC_cells, ap_nil, ap_sl, apC_cells, goNSC_on, goNSC_end, stC_one, stC_agg, fillC_one, fillC_agg, part_t, box_one, box_agg, evb_quo, evb_rem, evb_shl, evb_shr, bytesLess_eq])))
  exact ⟨h, Sub.refl, hq⟩
theorem swp_size (d : Txts) (i j : Nat) : (swp d i j).size = d.size := by simp [swp]
theorem insInner_size (a : Nat) : ∀ (j : Nat) (d : Txts), (Go.Sort.insInner ltStr a j d).size = d.size
  | 0, d => rfl
  | j + 1, d => by
    rw [Go.Sort.insInner]
    split
    · rw [insInner_size a j, swp_size]
    · rfl
/-- The two writes of a swap. -/
theorem swp_row {d : Txts} {i j : Nat} (hi : i < d.size) (hj : j < d.size) : (rowV (d.setIfInBounds i d[j]!)).take j ++ [V.str d[i]!] ++ (rowV (d.setIfInBounds i d[j]!)).drop (j + 1) = rowV (swp d i j) := by
  rw [rowV_set (by simpa using hj)]; rfl
theorem insertion_ac (hb : h b = some (rowO d)) (hn : d.size = n) (a e : Nat) (ha : a ≤ e) (he : e ≤ n) (hl : n < 1099511627776) (hq : Q (.tup []) (hadd h b (rowO (Go.Sort.insertionSort ltStr d a e)))) :
    AC pg (.fn 69) [.sl b 0 1 n, .int .i64 a, .int .i64 e] h Q := by
  refine AC.fn' (g := g69) rfl (by simp only [List.length_cons, List.length_nil, g69]; decide) ?_; simp only [g69]
  ((try simp -implicitDefEqProofs only [later, laterE, laterD, laterR]); (repeat (first | simp -implicitDefEqProofs only [go_sem, ↓reduceIte, Nat.reduceEqDiff, Nat.reduceAdd, Nat.reduceLeDiff, Nat.reduceLT, Nat.reduceMul, reduceCtorEq, Int.reduceEq, Int.reduceLT, Int.reduceLE, Int.reduceNeg, Int.reduceToNat, Int.reduceMul, Int.reduceAdd, Int.reduceSub] | simp (disch := (first | omega | (simp only [go_sem]; done) | (simp only [lens]; omega))) only [wrap_u8_id, wrap_u32_id, wrap_u64_id, wrap_i64_id, wrap_i32_id, tmod_nn, tdiv_nn, Int.toNat_natCast, bnd_nh, bnd_ln, bnd_lh, is_str, ix_sl, ir_ptr, ia_agg, tsC_cells, mk_ints, evb_sadd, decide_t, decide_f, hadd_ne', hset_ne', srcC_cells, ap_nil, ap_sl, apC_cells, goNSC_on, goNSC_end, stC_one, stC_agg, fillC_one, fillC_agg, part_t, box_one, box_agg, evb_quo, evb_rem, evb_shl, evb_shr])))
  refine E.loopX AC.mono (fun (i : Nat) a' h' => ∃ d1, a + 1 ≤ i ∧ i ≤ max (a + 1) e ∧ h' = hadd h b (rowO d1) ∧ d1.size = n ∧ Go.Sort.insOuter ltStr a e i d1 = Go.Sort.insertionSort ltStr d a e ∧ a'.d = [] ∧ a'.t 0 = .sl b 0 1 n ∧ a'.t 1 = .int .i64 a ∧ a'.t 2 = .int .i64 e ∧ a'.t 6 = .int .i64 i) (fun i => n + 1 - i) (a + 1) ?_ ?_
  · refine ⟨d, Nat.le_refl _, by omega, (hadd_self hb).symm, hn, rfl, ?_⟩
    ((try simp -implicitDefEqProofs only [later, laterE, laterD, laterR]); (repeat (first | simp -implicitDefEqProofs only [go_sem, ↓reduceIte, Nat.reduceEqDiff, Nat.reduceAdd, Nat.reduceLeDiff, Nat.reduceLT, Nat.reduceMul, reduceCtorEq, Int.reduceEq, Int.reduceLT, Int.reduceLE, Int.reduceNeg, Int.reduceToNat, Int.reduceMul, Int.reduceAdd, Int.reduceSub] | simp (disch := (first | omega | (simp only [go_sem]; done) | (simp only [lens]; omega))) only [wrap_u8_id, wrap_u32_id, wrap_u64_id, wrap_i64_id, wrap_i32_id, tmod_nn, tdiv_nn, Int.toNat_natCast, bnd_nh, bnd_ln, bnd_lh, is_str, ix_sl, ir_ptr, ia_agg, tsC_cells, mk_ints, evb_sadd, decide_t, decide_f, hadd_ne', hset_ne', srcC_cells, ap_nil, ap_sl, apC_cells, goNSC_on, goNSC_end, stC_one, stC_agg, fillC_one, fillC_agg, part_t, box_one, box_agg, evb_quo, evb_rem, evb_shl, evb_shr])))
    ((repeat' apply And.intro) <;> (first | omega | rfl | assumption | (congr 1 <;> omega) | skip))
  · rintro i ⟨t, ds⟩ h' ⟨d1, hi1, hi2, rfl, hs, hI, hd, t0, t1, t2, t6⟩
    simp only at hd t0 t1 t2 t6; subst hd
    by_cases c : (i : Int) < e
    · rw [Go.Sort.insOuter, if_pos (by omega)] at hI
      ((try simp -implicitDefEqProofs only [later, laterE, laterD, laterR]); (repeat (first | simp -implicitDefEqProofs only [go_sem, ↓reduceIte, Nat.reduceEqDiff, Nat.reduceAdd, Nat.reduceLeDiff, Nat.reduceLT, Nat.reduceMul, reduceCtorEq, Int.reduceEq, Int.reduceLT, Int.reduceLE, Int.reduceNeg, Int.reduceToNat, Int.reduceMul, Int.reduceAdd, Int.reduceSub, t0, t1, t2, t6] | simp (disch := (first | omega | (simp only [go_sem]; done) | (simp only [lens]; omega))) only [wrap_u8_id, wrap_u32_id, wrap_u64_id, wrap_i64_id, wrap_i32_id, tmod_nn, tdiv_nn, Int.toNat_natCast, bnd_nh, bnd_ln, bnd_lh, is_str, ix_sl, ir_ptr, ia_agg, tsC_cells, mk_ints, evb_sadd, decide_t, decide_f, hadd_ne', hset_ne', srcC_cells, ap_nil, ap_sl, apC_cells, goNSC_on, goNSC_end, stC_one, stC_agg, fillC_one, fillC_agg, part_t, box_one, box_agg, evb_quo, evb_rem, evb_shl, evb_shr, t0, t1, t2, t6])))
      refine E.loopX AC.mono (fun (j : Nat) a' h' => ∃ d2, a ≤ j ∧ j ≤ i ∧ h' = hadd h b (rowO d2) ∧ d2.size = n ∧ Go.Sort.insInner ltStr a j d2 = Go.Sort.insInner ltStr a i d1 ∧ a'.d = [] ∧ a'.t 0 = .sl b 0 1 n ∧ a'.t 1 = .int .i64 a ∧ a'.t 2 = .int .i64 e ∧ a'.t 6 = .int .i64 i ∧ a'.t 7 = .int .i64 j) (fun j => j) i ?_ ?_
      · refine ⟨d1, by omega, Nat.le_refl _, rfl, hs, rfl, ?_⟩
        ((try simp -implicitDefEqProofs only [later, laterE, laterD, laterR]); (repeat (first | simp -implicitDefEqProofs only [go_sem, ↓reduceIte, Nat.reduceEqDiff, Nat.reduceAdd, Nat.reduceLeDiff, Nat.reduceLT, Nat.reduceMul, reduceCtorEq, Int.reduceEq, Int.reduceLT, Int.reduceLE, Int.reduceNeg, Int.reduceToNat, Int.reduceMul, Int.reduceAdd, Int.reduceSub, t0, t1, t2, t6] | simp (disch := (first | omega | (simp only [go_sem]; done) | (simp only [lens]; omega))) only [wrap_u8_id, wrap_u32_id, wrap_u64_id, wrap_i64_id, wrap_i32_id, tmod_nn, tdiv_nn, Int.toNat_natCast, bnd_nh, bnd_ln, bnd_lh, is_str, ix_sl, ir_ptr, ia_agg, tsC_cells, mk_ints, evb_sadd, decide_t, decide_f, hadd_ne', hset_ne', srcC_cells, ap_nil, ap_sl, apC_cells, goNSC_on, goNSC_end, stC_one, stC_agg, fillC_one, fillC_agg, part_t, box_one, box_agg, evb_quo, evb_rem, evb_shl, evb_shr, t0, t1, t2, t6])))
      · rintro j ⟨t, ds⟩ h' ⟨d2, hj1, hj2, rfl, hs2, hI2, hd, t0, t1, t2, t6, t7⟩
        simp only at hd t0 t1 t2 t6 t7; subst hd
        by_cases c2 : (a : Int) < j
        · obtain ⟨k, rfl⟩ : ∃ k, j = k + 1 := ⟨j - 1, by omega⟩
          have g1 := rowV_get (d := d2) (i := k + 1) (by omega)
          have ek : (((k + 1 : Nat) : Int) - 1).toNat = k := by omega
          have g2 := rowV_get (d := d2) (i := k) (by omega)
          have fit := rowV_len d2
          rw [Go.Sort.insInner] at hI2
          have w1 := rowV_set (d := d2) (i := k + 1) (x := d2[k]!) (by omega)
          have w2 := swp_row (d := d2) (i := k + 1) (j := k) (by omega) (by omega)
          have fit1 := rowV_len (d2.setIfInBounds (k + 1) d2[k]!)
          rw [Array.size_setIfInBounds] at fit1
          ((try simp -implicitDefEqProofs only [later, laterE, laterD, laterR]); (repeat (first | simp -implicitDefEqProofs only [go_sem, ↓reduceIte, Nat.reduceEqDiff, Nat.reduceAdd, Nat.reduceLeDiff, Nat.reduceLT, Nat.reduceMul, reduceCtorEq, Int.reduceEq, Int.reduceLT, Int.reduceLE, Int.reduceNeg, Int.reduceToNat, Int.reduceMul, Int.reduceAdd, Int.reduceSub, t0, t1, t2, t6, t7, rowO, g1, g2, ek] | simp (disch := (first | omega | (simp only [go_sem]; done) | (simp only [lens]; omega))) only [wrap_u8_id, wrap_u32_id, wrap_u64_id, wrap_i64_id, wrap_i32_id, tmod_nn, tdiv_nn, Int.toNat_natCast, bnd_nh, bnd_ln, bnd_lh, is_str, ix_sl, ir_ptr, ia_agg, tsC_cells, mk_ints, evb_sadd, decide_t, decide_f, hadd_ne', hset_ne', srcC_cells, ap_nil, ap_sl, apC_cells, goNSC_on, goNSC_end, stC_one, stC_agg, fillC_one, fillC_agg, part_t, box_one, box_agg, evb_quo, evb_rem, evb_shl, evb_shr, t0, t1, t2, t6, t7, rowO, g1, g2, ek])))
          refine less_ac _ _ ?_
          cases hlt : ltStr d2[k + 1]! d2[k]!
          · have : (decide (k + 1 > a) && false) = false := by simp
            rw [hlt, this, if_neg (by decide)] at hI2
            ((try simp -implicitDefEqProofs only [later, laterE, laterD, laterR]); (repeat (first | simp -implicitDefEqProofs only [go_sem, ↓reduceIte, Nat.reduceEqDiff, Nat.reduceAdd, Nat.reduceLeDiff, Nat.reduceLT, Nat.reduceMul, reduceCtorEq, Int.reduceEq, Int.reduceLT, Int.reduceLE, Int.reduceNeg, Int.reduceToNat, Int.reduceMul, Int.reduceAdd, Int.reduceSub, t0, t1, t2, t6, t7, rowO, g1, g2, ek] | simp (disch := (first | omega | (simp only [go_sem]; done) | (simp only [lens]; omega))) only [wrap_u8_id, wrap_u32_id, wrap_u64_id, wrap_i64_id, wrap_i32_id, tmod_nn, tdiv_nn, Int.toNat_natCast, bnd_nh, bnd_ln, bnd_lh, is_str, ix_sl, ir_ptr, ia_agg, tsC_cells, mk_ints, evb_sadd, decide_t, decide_f, hadd_ne', hset_ne', srcC_cells, ap_nil, ap_sl, apC_cells, goNSC_on, goNSC_end, stC_one, stC_agg, fillC_one, fillC_agg, part_t, box_one, box_agg, evb_quo, evb_rem, evb_shl, evb_shr, t0, t1, t2, t6, t7, rowO, g1, g2, ek])))
            refine ⟨i + 1, ?_⟩
            ((try simp -implicitDefEqProofs only [later, laterE, laterD, laterR]); (repeat (first | simp -implicitDefEqProofs only [go_sem, ↓reduceIte, Nat.reduceEqDiff, Nat.reduceAdd, Nat.reduceLeDiff, Nat.reduceLT, Nat.reduceMul, reduceCtorEq, Int.reduceEq, Int.reduceLT, Int.reduceLE, Int.reduceNeg, Int.reduceToNat, Int.reduceMul, Int.reduceAdd, Int.reduceSub, t0, t1, t2, t6, t7] | simp (disch := (first | omega | (simp only [go_sem]; done) | (simp only [lens]; omega))) only [wrap_u8_id, wrap_u32_id, wrap_u64_id, wrap_i64_id, wrap_i32_id, tmod_nn, tdiv_nn, Int.toNat_natCast, bnd_nh, bnd_ln, bnd_lh, is_str, ix_sl, ir_ptr, ia_agg, tsC_cells, mk_ints, evb_sadd, decide_t, decide_f, hadd_ne', hset_ne', srcC_cells, ap_nil, ap_sl, apC_cells, goNSC_on, goNSC_end, stC_one, stC_agg, fillC_one, fillC_agg, part_t, box_one, box_agg, evb_quo, evb_rem, evb_shl, evb_shr, t0, t1, t2, t6, t7])))
            refine ⟨by omega, ⟨d2, ?_⟩⟩
            ((repeat' apply And.intro) <;> (first | omega | rfl | assumption | (congr 1 <;> omega) | skip))
            rw [hI2]; exact hI
          · have : (decide (k + 1 > a) && true) = true := by simp; omega
            rw [hlt, this, if_pos rfl] at hI2
            ((try simp -implicitDefEqProofs only [later, laterE, laterD, laterR]); (repeat (first | simp -implicitDefEqProofs only [go_sem, ↓reduceIte, Nat.reduceEqDiff, Nat.reduceAdd, Nat.reduceLeDiff, Nat.reduceLT, Nat.reduceMul, reduceCtorEq, Int.reduceEq, Int.reduceLT, Int.reduceLE, Int.reduceNeg, Int.reduceToNat, Int.reduceMul, Int.reduceAdd, Int.reduceSub, t0, t1, t2, t6, t7, rowO, g1, g2, ek, w1, w2] | simp (disch := (first | omega | (simp only [go_sem]; done) | (simp only [lens]; omega))) only [wrap_u8_id, wrap_u32_id, wrap_u64_id, wrap_i64_id, wrap_i32_id, tmod_nn, tdiv_nn, Int.toNat_natCast, bnd_nh, bnd_ln, bnd_lh, is_str, ix_sl, ir_ptr, ia_agg, tsC_cells, mk_ints, evb_sadd, decide_t, decide_f, hadd_ne', hset_ne', srcC_cells, ap_nil, ap_sl, apC_cells, goNSC_on, goNSC_end, stC_one, stC_agg, fillC_one, fillC_agg, part_t, box_one, box_agg, evb_quo, evb_rem, evb_shl, evb_shr, t0, t1, t2, t6, t7, rowO, g1, g2, ek, w1, w2])))
            refine ⟨k, ?_⟩
            ((try simp -implicitDefEqProofs only [later, laterE, laterD, laterR]); (repeat (first | simp -implicitDefEqProofs only [go_sem, ↓reduceIte, Nat.reduceEqDiff, Nat.reduceAdd, Nat.reduceLeDiff, Nat.reduceLT, Nat.reduceMul, reduceCtorEq, Int.reduceEq, Int.reduceLT, Int.reduceLE, Int.reduceNeg, Int.reduceToNat, Int.reduceMul, Int.reduceAdd, Int.reduceSub, t0, t1, t2, t6, t7] | simp (disch := (first | omega | (simp only [go_sem]; done) | (simp only [lens]; omega))) only [wrap_u8_id, wrap_u32_id, wrap_u64_id, wrap_i64_id, wrap_i32_id, tmod_nn, tdiv_nn, Int.toNat_natCast, bnd_nh, bnd_ln, bnd_lh, is_str, ix_sl, ir_ptr, ia_agg, tsC_cells, mk_ints, evb_sadd, decide_t, decide_f, hadd_ne', hset_ne', srcC_cells, ap_nil, ap_sl, apC_cells, goNSC_on, goNSC_end, stC_one, stC_agg, fillC_one, fillC_agg, part_t, box_one, box_agg, evb_quo, evb_rem, evb_shl, evb_shr, t0, t1, t2, t6, t7])))
            refine ⟨by omega, ⟨swp d2 (k + 1) k, ?_⟩⟩
            ((repeat' apply And.intro) <;> (first | omega | rfl | assumption | (congr 1 <;> omega) | skip))
            rw [swp_size]; exact hs2
        · have hj : j = a := by omega
          subst hj
          have hI2' : Go.Sort.insInner ltStr j j d2 = d2 := by
            cases j with
            | zero => rfl
            | succ j =>
              rw [Go.Sort.insInner]
              have : (decide (j + 1 > j + 1) && ltStr d2[j + 1]! d2[j]!) = false := by simp
              rw [this, if_neg (by decide)]
          rw [hI2'] at hI2
          ((try simp -implicitDefEqProofs only [later, laterE, laterD, laterR]); (repeat (first | simp -implicitDefEqProofs only [go_sem, ↓reduceIte, Nat.reduceEqDiff, Nat.reduceAdd, Nat.reduceLeDiff, Nat.reduceLT, Nat.reduceMul, reduceCtorEq, Int.reduceEq, Int.reduceLT, Int.reduceLE, Int.reduceNeg, Int.reduceToNat, Int.reduceMul, Int.reduceAdd, Int.reduceSub, t0, t1, t2, t6, t7] | simp (disch := (first | omega | (simp only [go_sem]; done) | (simp only [lens]; omega))) only [wrap_u8_id, wrap_u32_id, wrap_u64_id, wrap_i64_id, wrap_i32_id, tmod_nn, tdiv_nn, Int.toNat_natCast, bnd_nh, bnd_ln, bnd_lh, is_str, ix_sl, ir_ptr, ia_agg, tsC_cells, mk_ints, evb_sadd, decide_t, decide_f, hadd_ne', hset_ne', srcC_cells, ap_nil, ap_sl, apC_cells, goNSC_on, goNSC_end, stC_one, stC_agg, fillC_one, fillC_agg, part_t, box_one, box_agg, evb_quo, evb_rem, evb_shl, evb_shr, t0, t1, t2, t6, t7])))
          refine ⟨i + 1, ?_⟩
          ((try simp -implicitDefEqProofs only [later, laterE, laterD, laterR]); (repeat (first | simp -implicitDefEqProofs only [go_sem, ↓reduceIte, Nat.reduceEqDiff, Nat.reduceAdd, Nat.reduceLeDiff, Nat.reduceLT, Nat.reduceMul, reduceCtorEq, Int.reduceEq, Int.reduceLT, Int.reduceLE, Int.reduceNeg, Int.reduceToNat, Int.reduceMul, Int.reduceAdd, Int.reduceSub, t0, t1, t2, t6, t7] | simp (disch := (first | omega | (simp only [go_sem]; done) | (simp only [lens]; omega))) only [wrap_u8_id, wrap_u32_id, wrap_u64_id, wrap_i64_id, wrap_i32_id, tmod_nn, tdiv_nn, Int.toNat_natCast, bnd_nh, bnd_ln, bnd_lh, is_str, ix_sl, ir_ptr, ia_agg, tsC_cells, mk_ints, evb_sadd, decide_t, decide_f, hadd_ne', hset_ne', srcC_cells, ap_nil, ap_sl, apC_cells, goNSC_on, goNSC_end, stC_one, stC_agg, fillC_one, fillC_agg, part_t, box_one, box_agg, evb_quo, evb_rem, evb_shl, evb_shr, t0, t1, t2, t6, t7])))
          refine ⟨by omega, ⟨d2, ?_⟩⟩
          ((repeat' apply And.intro) <;> (first | omega | rfl | assumption | (congr 1 <;> omega) | skip))
          rw [hI2]; exact hI
    · rw [Go.Sort.insOuter, if_neg (by omega)] at hI
      subst hI
      ((try simp -implicitDefEqProofs only [later, laterE, laterD, laterR]); (repeat (first | simp -implicitDefEqProofs only [go_sem, ↓reduceIte, Nat.reduceEqDiff, Nat.reduceAdd, Nat.reduceLeDiff, Nat.reduceLT, Nat.reduceMul, reduceCtorEq, Int.reduceEq, Int.reduceLT, Int.reduceLE, Int.reduceNeg, Int.reduceToNat, Int.reduceMul, Int.reduceAdd, Int.reduceSub, t0, t1, t2, t6] | simp (disch := (first | omega | (simp only [go_sem]; done) | (simp only [lens]; omega))) only [wrap_u8_id, wrap_u32_id, wrap_u64_id, wrap_i64_id, wrap_i32_id, tmod_nn, tdiv_nn, Int.toNat_natCast, bnd_nh, bnd_ln, bnd_lh, is_str, ix_sl, ir_ptr, ia_agg, tsC_cells, mk_ints, evb_sadd, decide_t, decide_f, hadd_ne', hset_ne', srcC_cells, ap_nil, ap_sl, apC_cells, goNSC_on, goNSC_end, stC_one, stC_agg, fillC_one, fillC_agg, part_t, box_one, box_agg, evb_quo, evb_rem, evb_shl, evb_shr, t0, t1, t2, t6])))
      exact ⟨_, Sub.refl, hq⟩
end Go.Proofs.Ytijipnkdabdioaa
namespace Go.Proofs.Ytijipnkdabdioaa
open Mir
open Go.Sort (ltStr swp)
variable {h : H} {Q : V → H → Prop} {b n : Nat} {d : Txts}
theorem wrap_u8_mod {x : Int} : IntKind.u8.wrap x = x % 256 := by simp [IntKind.wrap, IntKind.bits, IntKind.signed]
theorem ishr_u64_16 {a : Int} (h0 : 0 ≤ a) : ishr .u64 a 16 = a / 65536 := by
  show a.fdiv (2 ^ (min (16 : Int).toNat 64)) = _
  rw [Int.fdiv_eq_ediv_of_nonneg _ (by decide)]; rfl
theorem ishr_u64_8 {a : Int} (h0 : 0 ≤ a) : ishr .u64 a 8 = a / 256 := by
  show a.fdiv (2 ^ (min (8 : Int).toNat 64)) = _
  rw [Int.fdiv_eq_ediv_of_nonneg _ (by decide)]; rfl
theorem goP_idx {call : CP} {K : A → H → Prop} {a : A} {dd : Option Nat} {l : List IOp} {T : List UInt8} {i : Nat} {f : UInt8 → V} (hi : i < T.length) (x : ∀ c : UInt8, goP (some (f c)) dd call l a h K) : goP ((T[i]?).map f) dd call l a h K := by
  rw [List.getElem?_eq_getElem hi]; exact x _
end Go.Proofs.Ytijipnkdabdioaa
namespace Go.Proofs.Ytijipnkdabdioaa
open Mir
open Go.Sort (ltStr swp)
variable {h : H} {Q : V → H → Prop} {b n : Nat} {d : Txts}
theorem siftDown_ac (hb : h b = some (rowO d)) (hn : d.size = n) (root hi F : Nat) (hF : F + hi ≤ n) (hl : n < 4294967296) (hr : root ≤ n) (hq : Q (.tup []) (hadd h b (rowO (Go.Sort.siftDown ltStr hi F root d)))) :
    AC pg (.fn 80) [.sl b 0 1 n, .int .i64 root, .int .i64 hi, .int .i64 F] h Q := by
  refine AC.fn' (g := g80) rfl (by simp only [List.length_cons, List.length_nil, g80]; decide) ?_; simp only [g80]
  ((try simp -implicitDefEqProofs only [later, laterE, laterD, laterR]); (repeat (first | simp -implicitDefEqProofs only [go_sem, ↓reduceIte, Nat.reduceEqDiff, Nat.reduceAdd, Nat.reduceLeDiff, Nat.reduceLT, Nat.reduceMul, reduceCtorEq, Int.reduceEq, Int.reduceLT, Int.reduceLE, Int.reduceNeg, Int.reduceToNat, Int.reduceMul, Int.reduceAdd, Int.reduceSub] | simp (disch := (first | omega | (simp only [go_sem]; done) | (simp only [lens]; omega))) only [wrap_u8_id, wrap_u32_id, wrap_u64_id, wrap_i64_id, wrap_i32_id, tmod_nn, tdiv_nn, Int.toNat_natCast, bnd_nh, bnd_ln, bnd_lh, is_str, ix_sl, ir_ptr, ia_agg, tsC_cells, mk_ints, evb_sadd, decide_t, decide_f, hadd_ne', hset_ne', srcC_cells, ap_nil, ap_sl, apC_cells, goNSC_on, goNSC_end, stC_one, stC_agg, fillC_one, fillC_agg, part_t, box_one, box_agg, evb_quo, evb_rem, evb_shl, evb_shr])))
  refine E.loopX AC.mono (fun (r : Nat) a' h' => ∃ d1, r ≤ n ∧ h' = hadd h b (rowO d1) ∧ d1.size = n ∧ Go.Sort.siftDown ltStr hi F r d1 = Go.Sort.siftDown ltStr hi F root d ∧ a'.d = [] ∧ a'.t 0 = .sl b 0 1 n ∧ a'.t 2 = .int .i64 hi ∧ a'.t 3 = .int .i64 F ∧ a'.t 8 = .int .i64 r) (fun r => n - r) root ?_ ?_
  · refine ⟨d, hr, (hadd_self hb).symm, hn, rfl, ?_⟩
    ((try simp -implicitDefEqProofs only [later, laterE, laterD, laterR]); (repeat (first | simp -implicitDefEqProofs only [go_sem, ↓reduceIte, Nat.reduceEqDiff, Nat.reduceAdd, Nat.reduceLeDiff, Nat.reduceLT, Nat.reduceMul, reduceCtorEq, Int.reduceEq, Int.reduceLT, Int.reduceLE, Int.reduceNeg, Int.reduceToNat, Int.reduceMul, Int.reduceAdd, Int.reduceSub] | simp (disch := (first | omega | (simp only [go_sem]; done) | (simp only [lens]; omega))) only [wrap_u8_id, wrap_u32_id, wrap_u64_id, wrap_i64_id, wrap_i32_id, tmod_nn, tdiv_nn, Int.toNat_natCast, bnd_nh, bnd_ln, bnd_lh, is_str, ix_sl, ir_ptr, ia_agg, tsC_cells, mk_ints, evb_sadd, decide_t, decide_f, hadd_ne', hset_ne', srcC_cells, ap_nil, ap_sl, apC_cells, goNSC_on, goNSC_end, stC_one, stC_agg, fillC_one, fillC_agg, part_t, box_one, box_agg, evb_quo, evb_rem, evb_shl, evb_shr])))
  · rintro r ⟨t, ds⟩ h' ⟨d1, hr1, rfl, hs, hI, hd, t0, t2, t3, t8⟩
    simp only at hd t0 t2 t3 t8; subst hd
    rw [Go.Sort.siftDown] at hI
    have fit := rowV_len d1
    by_cases c1 : (hi : Int) ≤ 2 * r + 1
    · rw [dif_pos (by omega)] at hI
      subst hI
      ((try simp -implicitDefEqProofs only [later, laterE, laterD, laterR]); (repeat (first | simp -implicitDefEqProofs only [go_sem, ↓reduceIte, Nat.reduceEqDiff, Nat.reduceAdd, Nat.reduceLeDiff, Nat.reduceLT, Nat.reduceMul, reduceCtorEq, Int.reduceEq, Int.reduceLT, Int.reduceLE, Int.reduceNeg, Int.reduceToNat, Int.reduceMul, Int.reduceAdd, Int.reduceSub, t0, t2, t3, t8] | simp (disch := (first | omega | (simp only [go_sem]; done) | (simp only [lens]; omega))) only [wrap_u8_id, wrap_u32_id, wrap_u64_id, wrap_i64_id, wrap_i32_id, tmod_nn, tdiv_nn, Int.toNat_natCast, bnd_nh, bnd_ln, bnd_lh, is_str, ix_sl, ir_ptr, ia_agg, tsC_cells, mk_ints, evb_sadd, decide_t, decide_f, hadd_ne', hset_ne', srcC_cells, ap_nil, ap_sl, apC_cells, goNSC_on, goNSC_end, stC_one, stC_agg, fillC_one, fillC_agg, part_t, box_one, box_agg, evb_quo, evb_rem, evb_shl, evb_shr, t0, t2, t3, t8])))
      exact ⟨_, Sub.refl, hq⟩
    · rw [dif_neg (by omega)] at hI
      have e0 : ((F : Int) + r).toNat = F + r := by omega
      have e1 : ((F : Int) + (2 * r + 1)).toNat = F + (2 * r + 1) := by omega
      have e2 : ((F : Int) + (2 * r + 1) + 1).toNat = F + (2 * r + 1) + 1 := by omega
      have e3 : ((F : Int) + (2 * r + 1 + 1)).toNat = F + (2 * r + 2) := by omega
      have g0 := rowV_get (d := d1) (i := F + r) (by omega)
      have g1 := rowV_get (d := d1) (i := F + (2 * r + 1)) (by omega)
      by_cases c2 : 2 * (r : Int) + 1 + 1 < hi
      · have g2 := rowV_get (d := d1) (i := F + (2 * r + 1) + 1) (by omega)
        have g3 := rowV_get (d := d1) (i := F + (2 * r + 2)) (by omega)
        ((try simp -implicitDefEqProofs only [later, laterE, laterD, laterR]); (repeat (first | simp -implicitDefEqProofs only [go_sem, ↓reduceIte, Nat.reduceEqDiff, Nat.reduceAdd, Nat.reduceLeDiff, Nat.reduceLT, Nat.reduceMul, reduceCtorEq, Int.reduceEq, Int.reduceLT, Int.reduceLE, Int.reduceNeg, Int.reduceToNat, Int.reduceMul, Int.reduceAdd, Int.reduceSub, t0, t2, t3, t8, rowO, e0, e1, e2, e3, g0, g1, g2, g3] | simp (disch := (first | omega | (simp only [go_sem]; done) | (simp only [lens]; omega))) only [wrap_u8_id, wrap_u32_id, wrap_u64_id, wrap_i64_id, wrap_i32_id, tmod_nn, tdiv_nn, Int.toNat_natCast, bnd_nh, bnd_ln, bnd_lh, is_str, ix_sl, ir_ptr, ia_agg, tsC_cells, mk_ints, evb_sadd, decide_t, decide_f, hadd_ne', hset_ne', srcC_cells, ap_nil, ap_sl, apC_cells, goNSC_on, goNSC_end, stC_one, stC_agg, fillC_one, fillC_agg, part_t, box_one, box_agg, evb_quo, evb_rem, evb_shl, evb_shr, t0, t2, t3, t8, rowO, e0, e1, e2, e3, g0, g1, g2, g3])))
        refine less_ac _ _ ?_
        cases hlt : ltStr d1[F + (2 * r + 1)]! d1[F + (2 * r + 1) + 1]!
        · rw [hlt, Bool.and_false, if_neg (by decide)] at hI
          ((try simp -implicitDefEqProofs only [later, laterE, laterD, laterR]); (repeat (first | simp -implicitDefEqProofs only [go_sem, ↓reduceIte, Nat.reduceEqDiff, Nat.reduceAdd, Nat.reduceLeDiff, Nat.reduceLT, Nat.reduceMul, reduceCtorEq, Int.reduceEq, Int.reduceLT, Int.reduceLE, Int.reduceNeg, Int.reduceToNat, Int.reduceMul, Int.reduceAdd, Int.reduceSub, t0, t2, t3, t8, rowO, e0, e1, e2, e3, g0, g1, g2, g3] | simp (disch := (first | omega | (simp only [go_sem]; done) | (simp only [lens]; omega))) only [wrap_u8_id, wrap_u32_id, wrap_u64_id, wrap_i64_id, wrap_i32_id, tmod_nn, tdiv_nn, Int.toNat_natCast, bnd_nh, bnd_ln, bnd_lh, is_str, ix_sl, ir_ptr, ia_agg, tsC_cells, mk_ints, evb_sadd, decide_t, decide_f, hadd_ne', hset_ne', srcC_cells, ap_nil, ap_sl, apC_cells, goNSC_on, goNSC_end, stC_one, stC_agg, fillC_one, fillC_agg, part_t, box_one, box_agg, evb_quo, evb_rem, evb_shl, evb_shr, t0, t2, t3, t8, rowO, e0, e1, e2, e3, g0, g1, g2, g3])))
          refine less_ac _ _ ?_
          cases hl2 : ltStr d1[F + r]! d1[F + (2 * r + 1)]!
          · rw [hl2, if_pos (by decide)] at hI
            subst hI
            ((try simp -implicitDefEqProofs only [later, laterE, laterD, laterR]); (repeat (first | simp -implicitDefEqProofs only [go_sem, ↓reduceIte, Nat.reduceEqDiff, Nat.reduceAdd, Nat.reduceLeDiff, Nat.reduceLT, Nat.reduceMul, reduceCtorEq, Int.reduceEq, Int.reduceLT, Int.reduceLE, Int.reduceNeg, Int.reduceToNat, Int.reduceMul, Int.reduceAdd, Int.reduceSub, t0, t2, t3, t8, rowO, e0, e1, e2, e3, g0, g1, g2, g3] | simp (disch := (first | omega | (simp only [go_sem]; done) | (simp only [lens]; omega))) only [wrap_u8_id, wrap_u32_id, wrap_u64_id, wrap_i64_id, wrap_i32_id, tmod_nn, tdiv_nn, Int.toNat_natCast, bnd_nh, bnd_ln, bnd_lh, is_str, ix_sl, ir_ptr, ia_agg, tsC_cells, mk_ints, evb_sadd, decide_t, decide_f, hadd_ne', hset_ne', srcC_cells, ap_nil, ap_sl, apC_cells, goNSC_on, goNSC_end, stC_one, stC_agg, fillC_one, fillC_agg, part_t, box_one, box_agg, evb_quo, evb_rem, evb_shl, evb_shr, t0, t2, t3, t8, rowO, e0, e1, e2, e3, g0, g1, g2, g3])))
            exact ⟨_, Sub.refl, hq⟩
          · rw [hl2, if_neg (by decide)] at hI
            have w1 := rowV_set (d := d1) (i := F + r) (x := d1[F + (2 * r + 1)]!) (by omega)
            have w2 := swp_row (d := d1) (i := F + r) (j := F + (2 * r + 1)) (by omega) (by omega)
            have fit1 := rowV_len (d1.setIfInBounds (F + r) d1[F + (2 * r + 1)]!)
            rw [Array.size_setIfInBounds] at fit1
            ((try simp -implicitDefEqProofs only [later, laterE, laterD, laterR]); (repeat (first | simp -implicitDefEqProofs only [go_sem, ↓reduceIte, Nat.reduceEqDiff, Nat.reduceAdd, Nat.reduceLeDiff, Nat.reduceLT, Nat.reduceMul, reduceCtorEq, Int.reduceEq, Int.reduceLT, Int.reduceLE, Int.reduceNeg, Int.reduceToNat, Int.reduceMul, Int.reduceAdd, Int.reduceSub, t0, t2, t3, t8, rowO, e0, e1, e2, e3, g0, g1, g2, g3, w1, w2] | simp (disch := (first | omega | (simp only [go_sem]; done) | (simp only [lens]; omega))) only [wrap_u8_id, wrap_u32_id, wrap_u64_id, wrap_i64_id, wrap_i32_id, tmod_nn, tdiv_nn, Int.toNat_natCast, bnd_nh, bnd_ln, bnd_lh, is_str, ix_sl, ir_ptr, ia_agg, tsC_cells, mk_ints, evb_sadd, decide_t, decide_f, hadd_ne', hset_ne', srcC_cells, ap_nil, ap_sl, apC_cells, goNSC_on, goNSC_end, stC_one, stC_agg, fillC_one, fillC_agg, part_t, box_one, box_agg, evb_quo, evb_rem, evb_shl, evb_shr, t0, t2, t3, t8, rowO, e0, e1, e2, e3, g0, g1, g2, g3, w1, w2])))
            refine ⟨2 * r + 1, ?_⟩
            ((try simp -implicitDefEqProofs only [later, laterE, laterD, laterR]); (repeat (first | simp -implicitDefEqProofs only [go_sem, ↓reduceIte, Nat.reduceEqDiff, Nat.reduceAdd, Nat.reduceLeDiff, Nat.reduceLT, Nat.reduceMul, reduceCtorEq, Int.reduceEq, Int.reduceLT, Int.reduceLE, Int.reduceNeg, Int.reduceToNat, Int.reduceMul, Int.reduceAdd, Int.reduceSub, t0, t2, t3, t8] | simp (disch := (first | omega | (simp only [go_sem]; done) | (simp only [lens]; omega))) only [wrap_u8_id, wrap_u32_id, wrap_u64_id, wrap_i64_id, wrap_i32_id, tmod_nn, tdiv_nn, Int.toNat_natCast, bnd_nh, bnd_ln, bnd_lh, is_str, ix_sl, ir_ptr, ia_agg, tsC_cells, mk_ints, evb_sadd, decide_t, decide_f, hadd_ne', hset_ne', srcC_cells, ap_nil, ap_sl, apC_cells, goNSC_on, goNSC_end, stC_one, stC_agg, fillC_one, fillC_agg, part_t, box_one, box_agg, evb_quo, evb_rem, evb_shl, evb_shr, t0, t2, t3, t8])))
            refine ⟨by omega, swp d1 (F + r) (F + (2 * r + 1)), by omega, rfl, by rw [swp_size]; exact hs, hI, ?_⟩
            ((repeat' apply And.intro) <;> (first | omega | rfl | assumption | (congr 1 <;> omega) | skip))
        · rw [hlt, Bool.and_true, decide_eq_true (show 2 * r + 1 + 1 < hi by omega), if_pos rfl] at hI
          ((try simp -implicitDefEqProofs only [later, laterE, laterD, laterR]); (repeat (first | simp -implicitDefEqProofs only [go_sem, ↓reduceIte, Nat.reduceEqDiff, Nat.reduceAdd, Nat.reduceLeDiff, Nat.reduceLT, Nat.reduceMul, reduceCtorEq, Int.reduceEq, Int.reduceLT, Int.reduceLE, Int.reduceNeg, Int.reduceToNat, Int.reduceMul, Int.reduceAdd, Int.reduceSub, t0, t2, t3, t8, rowO, e0, e1, e2, e3, g0, g1, g2, g3] | simp (disch := (first | omega | (simp only [go_sem]; done) | (simp only [lens]; omega))) only [wrap_u8_id, wrap_u32_id, wrap_u64_id, wrap_i64_id, wrap_i32_id, tmod_nn, tdiv_nn, Int.toNat_natCast, bnd_nh, bnd_ln, bnd_lh, is_str, ix_sl, ir_ptr, ia_agg, tsC_cells, mk_ints, evb_sadd, decide_t, decide_f, hadd_ne', hset_ne', srcC_cells, ap_nil, ap_sl, apC_cells, goNSC_on, goNSC_end, stC_one, stC_agg, fillC_one, fillC_agg, part_t, box_one, box_agg, evb_quo, evb_rem, evb_shl, evb_shr, t0, t2, t3, t8, rowO, e0, e1, e2, e3, g0, g1, g2, g3])))
          refine less_ac _ _ ?_
          cases hl2 : ltStr d1[F + r]! d1[F + (2 * r + 2)]!
          · rw [hl2, if_pos (by decide)] at hI
            subst hI
            ((try simp -implicitDefEqProofs only [later, laterE, laterD, laterR]); (repeat (first | simp -implicitDefEqProofs only [go_sem, ↓reduceIte, Nat.reduceEqDiff, Nat.reduceAdd, Nat.reduceLeDiff, Nat.reduceLT, Nat.reduceMul, reduceCtorEq, Int.reduceEq, Int.reduceLT, Int.reduceLE, Int.reduceNeg, Int.reduceToNat, Int.reduceMul, Int.reduceAdd, Int.reduceSub, t0, t2, t3, t8, rowO, e0, e1, e2, e3, g0, g1, g2, g3] | simp (disch := (first | omega | (simp only [go_sem]; done) | (simp only [lens]; omega))) only [wrap_u8_id, wrap_u32_id, wrap_u64_id, wrap_i64_id, wrap_i32_id, tmod_nn, tdiv_nn, Int.toNat_natCast, bnd_nh, bnd_ln, bnd_lh, is_str, ix_sl, ir_ptr, ia_agg, tsC_cells, mk_ints, evb_sadd, decide_t, decide_f, hadd_ne', hset_ne', srcC_cells, ap_nil, ap_sl, apC_cells, goNSC_on, goNSC_end, stC_one, stC_agg, fillC_one, fillC_agg, part_t, box_one, box_agg, evb_quo, evb_rem, evb_shl, evb_shr, t0, t2, t3, t8, rowO, e0, e1, e2, e3, g0, g1, g2, g3])))
            exact ⟨_, Sub.refl, hq⟩
          · rw [hl2, if_neg (by decide), dif_pos (by omega)] at hI
            have w1 := rowV_set (d := d1) (i := F + r) (x := d1[F + (2 * r + 2)]!) (by omega)
            have w2 := swp_row (d := d1) (i := F + r) (j := F + (2 * r + 2)) (by omega) (by omega)
            have fit1 := rowV_len (d1.setIfInBounds (F + r) d1[F + (2 * r + 2)]!)
            rw [Array.size_setIfInBounds] at fit1
            ((try simp -implicitDefEqProofs only [later, laterE, laterD, laterR]); (repeat (first | simp -implicitDefEqProofs only [go_sem, ↓reduceIte, Nat.reduceEqDiff, Nat.reduceAdd, Nat.reduceLeDiff, Nat.reduceLT, Nat.reduceMul, reduceCtorEq, Int.reduceEq, Int.reduceLT, Int.reduceLE, Int.reduceNeg, Int.reduceToNat, Int.reduceMul, Int.reduceAdd, Int.reduceSub, t0, t2, t3, t8, rowO, e0, e1, e2, e3, g0, g1, g2, g3, w1, w2] | simp (disch := (first | omega | (simp only [go_sem]; done) | (simp only [lens]; omega))) only [wrap_u8_id, wrap_u32_id, wrap_u64_id, wrap_i64_id, wrap_i32_id, tmod_nn, tdiv_nn, Int.toNat_natCast, bnd_nh, bnd_ln, bnd_lh, is_str, ix_sl, ir_ptr, ia_agg, tsC_cells, mk_ints, evb_sadd, decide_t, decide_f, hadd_ne', hset_ne', srcC_cells, ap_nil, ap_sl, apC_cells, goNSC_on, goNSC_end, stC_one, stC_agg, fillC_one, fillC_agg, part_t, box_one, box_agg, evb_quo, evb_rem, evb_shl, evb_shr, t0, t2, t3, t8, rowO, e0, e1, e2, e3, g0, g1, g2, g3, w1, w2])))
            refine ⟨2 * r + 2, ?_⟩
            ((try simp -implicitDefEqProofs only [later, laterE, laterD, laterR]); (repeat (first | simp -implicitDefEqProofs only [go_sem, ↓reduceIte, Nat.reduceEqDiff, Nat.reduceAdd, Nat.reduceLeDiff, Nat.reduceLT, Nat.reduceMul, reduceCtorEq, Int.reduceEq, Int.reduceLT, Int.reduceLE, Int.reduceNeg, Int.reduceToNat, Int.reduceMul, Int.reduceAdd, Int.reduceSub, t0, t2, t3, t8] | simp (disch := (first | omega | (simp only [go_sem]; done) | (simp only [lens]; omega))) only [wrap_u8_id, wrap_u32_id, wrap_u64_id, wrap_i64_id, wrap_i32_id, tmod_nn, tdiv_nn, Int.toNat_natCast, bnd_nh, bnd_ln, bnd_lh, is_str, ix_sl, ir_ptr, ia_agg, tsC_cells, mk_ints, evb_sadd, decide_t, decide_f, hadd_ne', hset_ne', srcC_cells, ap_nil, ap_sl, apC_cells, goNSC_on, goNSC_end, stC_one, stC_agg, fillC_one, fillC_agg, part_t, box_one, box_agg, evb_quo, evb_rem, evb_shl, evb_shr, t0, t2, t3, t8])))
            refine ⟨by omega, swp d1 (F + r) (F + (2 * r + 2)), by omega, rfl, by rw [swp_size]; exact hs, hI, ?_⟩
            ((repeat' apply And.intro) <;> (first | omega | rfl | assumption | (congr 1 <;> omega) | skip))
      · rw [decide_eq_false (show ¬ 2 * r + 1 + 1 < hi by omega), Bool.false_and, if_neg (by decide)] at hI
        ((try simp -implicitDefEqProofs only [later, laterE, laterD, laterR]); (repeat (first | simp -implicitDefEqProofs only [go_sem, ↓reduceIte, Nat.reduceEqDiff, Nat.reduceAdd, Nat.reduceLeDiff, Nat.reduceLT, Nat.reduceMul, reduceCtorEq, Int.reduceEq, Int.reduceLT, Int.reduceLE, Int.reduceNeg, Int.reduceToNat, Int.reduceMul, Int.reduceAdd, Int.reduceSub, t0, t2, t3, t8, rowO, e0, e1, e2, e3, g0, g1] | simp (disch := (first | omega | (simp only [go_sem]; done) | (simp only [lens]; omega))) only [wrap_u8_id, wrap_u32_id, wrap_u64_id, wrap_i64_id, wrap_i32_id, tmod_nn, tdiv_nn, Int.toNat_natCast, bnd_nh, bnd_ln, bnd_lh, is_str, ix_sl, ir_ptr, ia_agg, tsC_cells, mk_ints, evb_sadd, decide_t, decide_f, hadd_ne', hset_ne', srcC_cells, ap_nil, ap_sl, apC_cells, goNSC_on, goNSC_end, stC_one, stC_agg, fillC_one, fillC_agg, part_t, box_one, box_agg, evb_quo, evb_rem, evb_shl, evb_shr, t0, t2, t3, t8, rowO, e0, e1, e2, e3, g0, g1])))
        refine less_ac _ _ ?_
        cases hl2 : ltStr d1[F + r]! d1[F + (2 * r + 1)]!
        · rw [hl2, if_pos (by decide)] at hI
          subst hI
          ((try simp -implicitDefEqProofs only [later, laterE, laterD, laterR]); (repeat (first | simp -implicitDefEqProofs only [go_sem, ↓reduceIte, Nat.reduceEqDiff, Nat.reduceAdd, Nat.reduceLeDiff, Nat.reduceLT, Nat.reduceMul, reduceCtorEq, Int.reduceEq, Int.reduceLT, Int.reduceLE, Int.reduceNeg, Int.reduceToNat, Int.reduceMul, Int.reduceAdd, Int.reduceSub, t0, t2, t3, t8, rowO, e0, e1, e2, e3, g0, g1] | simp (disch := (first | omega | (simp only [go_sem]; done) | (simp only [lens]; omega))) only [wrap_u8_id, wrap_u32_id, wrap_u64_id, wrap_i64_id, wrap_i32_id, tmod_nn, tdiv_nn, Int.toNat_natCast, bnd_nh, bnd_ln, bnd_lh, is_str, ix_sl, ir_ptr, ia_agg, tsC_cells, mk_ints, evb_sadd, decide_t, decide_f, hadd_ne', hset_ne', srcC_cells, ap_nil, ap_sl, apC_cells, goNSC_on, goNSC_end, stC_one, stC_agg, fillC_one, fillC_agg, part_t, box_one, box_agg, evb_quo, evb_rem, evb_shl, evb_shr, t0, t2, t3, t8, rowO, e0, e1, e2, e3, g0, g1])))
          exact ⟨_, Sub.refl, hq⟩
        · rw [hl2, if_neg (by decide)] at hI
          have w1 := rowV_set (d := d1) (i := F + r) (x := d1[F + (2 * r + 1)]!) (by omega)
          have w2 := swp_row (d := d1) (i := F + r) (j := F + (2 * r + 1)) (by omega) (by omega)
          have fit1 := rowV_len (d1.setIfInBounds (F + r) d1[F + (2 * r + 1)]!)
          rw [Array.size_setIfInBounds] at fit1
          ((try simp -implicitDefEqProofs only [later, laterE, laterD, laterR]); (repeat (first | simp -implicitDefEqProofs only [go_sem, ↓reduceIte, Nat.reduceEqDiff, Nat.reduceAdd, Nat.reduceLeDiff, Nat.reduceLT, Nat.reduceMul, reduceCtorEq, Int.reduceEq, Int.reduceLT, Int.reduceLE, Int.reduceNeg, Int.reduceToNat, Int.reduceMul, Int.reduceAdd, Int.reduceSub, t0, t2, t3, t8, rowO, e0, e1, e2, e3, g0, g1, w1, w2] | simp (disch := (first | omega | (simp only [go_sem]; done) | (simp only [lens]; omega))) only [wrap_u8_id, wrap_u32_id, wrap_u64_id, wrap_i64_id, wrap_i32_id, tmod_nn, tdiv_nn, Int.toNat_natCast, bnd_nh, bnd_ln, bnd_lh, is_str, ix_sl, ir_ptr, ia_agg, tsC_cells, mk_ints, evb_sadd, decide_t, decide_f, hadd_ne', hset_ne', srcC_cells, ap_nil, ap_sl, apC_cells, goNSC_on, goNSC_end, stC_one, stC_agg, fillC_one, fillC_agg, part_t, box_one, box_agg, evb_quo, evb_rem, evb_shl, evb_shr, t0, t2, t3, t8, rowO, e0, e1, e2, e3, g0, g1, w1, w2])))
          refine ⟨2 * r + 1, ?_⟩
          ((try simp -implicitDefEqProofs only [later, laterE, laterD, laterR]); (repeat (first | simp -implicitDefEqProofs only [go_sem, ↓reduceIte, Nat.reduceEqDiff, Nat.reduceAdd, Nat.reduceLeDiff, Nat.reduceLT, Nat.reduceMul, reduceCtorEq, Int.reduceEq, Int.reduceLT, Int.reduceLE, Int.reduceNeg, Int.reduceToNat, Int.reduceMul, Int.reduceAdd, Int.reduceSub, t0, t2, t3, t8] | simp (disch := (first | omega | (simp only [go_sem]; done) | (simp only [lens]; omega))) only [wrap_u8_id, wrap_u32_id, wrap_u64_id, wrap_i64_id, wrap_i32_id, tmod_nn, tdiv_nn, Int.toNat_natCast, bnd_nh, bnd_ln, bnd_lh, is_str, ix_sl, ir_ptr, ia_agg, tsC_cells, mk_ints, evb_sadd, decide_t, decide_f, hadd_ne', hset_ne', srcC_cells, ap_nil, ap_sl, apC_cells, goNSC_on, goNSC_end, stC_one, stC_agg, fillC_one, fillC_agg, part_t, box_one, box_agg, evb_quo, evb_rem, evb_shl, evb_shr, t0, t2, t3, t8])))
          refine ⟨by omega, swp d1 (F + r) (F + (2 * r + 1)), by omega, rfl, by rw [swp_size]; exact hs, hI, ?_⟩
          ((repeat' apply And.intro) <;> (first | omega | rfl | assumption | (congr 1 <;> omega) | skip))
theorem siftDown_size (hi F : Nat) : ∀ (m root : Nat) (d : Txts), hi - root ≤ m → (Go.Sort.siftDown ltStr hi F root d).size = d.size := by
  intro m
  induction m with
  | zero => intro root d hm; rw [Go.Sort.siftDown, dif_pos (by omega)]
  | succ m ih =>
    intro root d hm
    rw [Go.Sort.siftDown]
    split
    · rfl
    · split
      · split
        · rfl
        · split
          · rw [ih _ _ (by omega), swp_size]
          · rfl
      · split
        · rfl
        · rw [ih _ _ (by omega), swp_size]
theorem heap_ac (hb : h b = some (rowO d)) (hn : d.size = n) (a e : Nat) (hae : a ≤ e) (he : e ≤ n) (hl : n < 4294967296) (hq : Q (.tup []) (hadd h b (rowO (Go.Sort.heapSort ltStr d a e)))) :
    AC pg (.fn 70) [.sl b 0 1 n, .int .i64 a, .int .i64 e] h Q := by
  refine AC.fn' (g := g70) rfl (by simp only [List.length_cons, List.length_nil, g70]; decide) ?_; simp only [g70]
  have q0 : (((e : Int) - a) - 1).tdiv 2 = ((if e = a then 0 else (e - a - 1) / 2 : Nat) : Int) := by
    split
    · rename_i c; subst c; simp
    · rw [show ((e : Int) - a) - 1 = ((e - a - 1 : Nat) : Int) from by omega]; rfl
  have q1 : (if e = a then 0 else (e - a - 1) / 2) + 1 = (e - a - 1) / 2 + 1 := by split <;> omega
  ((try simp -implicitDefEqProofs only [later, laterE, laterD, laterR]); (repeat (first | simp -implicitDefEqProofs only [go_sem, ↓reduceIte, Nat.reduceEqDiff, Nat.reduceAdd, Nat.reduceLeDiff, Nat.reduceLT, Nat.reduceMul, reduceCtorEq, Int.reduceEq, Int.reduceLT, Int.reduceLE, Int.reduceNeg, Int.reduceToNat, Int.reduceMul, Int.reduceAdd, Int.reduceSub, q0] | simp (disch := (first | omega | (simp only [go_sem]; done) | (simp only [lens]; omega))) only [wrap_u8_id, wrap_u32_id, wrap_u64_id, wrap_i64_id, wrap_i32_id, tmod_nn, tdiv_nn, Int.toNat_natCast, bnd_nh, bnd_ln, bnd_lh, is_str, ix_sl, ir_ptr, ia_agg, tsC_cells, mk_ints, evb_sadd, decide_t, decide_f, hadd_ne', hset_ne', srcC_cells, ap_nil, ap_sl, apC_cells, goNSC_on, goNSC_end, stC_one, stC_agg, fillC_one, fillC_agg, part_t, box_one, box_agg, evb_quo, evb_rem, evb_shl, evb_shr, q0])))
  refine E.loopX AC.mono (fun (k : Nat) a' h' => ∃ d1, k ≤ (e - a - 1) / 2 + 1 ∧ h' = hadd h b (rowO d1) ∧ d1.size = n ∧ Go.Sort.heapBuild ltStr (e - a) a k d1 = Go.Sort.heapBuild ltStr (e - a) a ((e - a - 1) / 2 + 1) d ∧ a'.d = [] ∧ a'.t 0 = .sl b 0 1 n ∧ a'.t 6 = .int .i64 a ∧ a'.t 7 = .int .i64 0 ∧ a'.t 8 = .int .i64 ((e : Int) - a) ∧ a'.t 9 = .int .i64 ((k : Int) - 1)) (fun k => k) ((if e = a then 0 else (e - a - 1) / 2) + 1) ?_ ?_
  · refine ⟨d, by omega, (hadd_self hb).symm, hn, by rw [q1], ?_⟩
    ((try simp -implicitDefEqProofs only [later, laterE, laterD, laterR]); (repeat (first | simp -implicitDefEqProofs only [go_sem, ↓reduceIte, Nat.reduceEqDiff, Nat.reduceAdd, Nat.reduceLeDiff, Nat.reduceLT, Nat.reduceMul, reduceCtorEq, Int.reduceEq, Int.reduceLT, Int.reduceLE, Int.reduceNeg, Int.reduceToNat, Int.reduceMul, Int.reduceAdd, Int.reduceSub] | simp (disch := (first | omega | (simp only [go_sem]; done) | (simp only [lens]; omega))) only [wrap_u8_id, wrap_u32_id, wrap_u64_id, wrap_i64_id, wrap_i32_id, tmod_nn, tdiv_nn, Int.toNat_natCast, bnd_nh, bnd_ln, bnd_lh, is_str, ix_sl, ir_ptr, ia_agg, tsC_cells, mk_ints, evb_sadd, decide_t, decide_f, hadd_ne', hset_ne', srcC_cells, ap_nil, ap_sl, apC_cells, goNSC_on, goNSC_end, stC_one, stC_agg, fillC_one, fillC_agg, part_t, box_one, box_agg, evb_quo, evb_rem, evb_shl, evb_shr])))
    ((repeat' apply And.intro) <;> (first | omega | rfl | assumption | (congr 1 <;> omega) | skip))
  · rintro k ⟨t, ds⟩ h' ⟨d1, hk, rfl, hs, hI, hd, t0, t6, t7, t8, t9⟩
    simp only at hd t0 t6 t7 t8 t9; subst hd
    cases k with
    | succ k =>
      rw [Go.Sort.heapBuild] at hI
      have ek : (((k + 1 : Nat) : Int) - 1) = (k : Nat) := by omega
      rw [ek] at t9
      ((try simp -implicitDefEqProofs only [later, laterE, laterD, laterR]); (repeat (first | simp -implicitDefEqProofs only [go_sem, ↓reduceIte, Nat.reduceEqDiff, Nat.reduceAdd, Nat.reduceLeDiff, Nat.reduceLT, Nat.reduceMul, reduceCtorEq, Int.reduceEq, Int.reduceLT, Int.reduceLE, Int.reduceNeg, Int.reduceToNat, Int.reduceMul, Int.reduceAdd, Int.reduceSub, t0, t6, t7, t8, t9] | simp (disch := (first | omega | (simp only [go_sem]; done) | (simp only [lens]; omega))) only [wrap_u8_id, wrap_u32_id, wrap_u64_id, wrap_i64_id, wrap_i32_id, tmod_nn, tdiv_nn, Int.toNat_natCast, bnd_nh, bnd_ln, bnd_lh, is_str, ix_sl, ir_ptr, ia_agg, tsC_cells, mk_ints, evb_sadd, decide_t, decide_f, hadd_ne', hset_ne', srcC_cells, ap_nil, ap_sl, apC_cells, goNSC_on, goNSC_end, stC_one, stC_agg, fillC_one, fillC_agg, part_t, box_one, box_agg, evb_quo, evb_rem, evb_shl, evb_shr, t0, t6, t7, t8, t9])))
      rw [show ((e : Int) - a) = ((e - a : Nat) : Int) from by omega]
      refine siftDown_ac hadd_same hs k (e - a) a (by omega) hl (by omega) ?_
      rw [hadd_twice]
      ((try simp -implicitDefEqProofs only [later, laterE, laterD, laterR]); (repeat (first | simp -implicitDefEqProofs only [go_sem, ↓reduceIte, Nat.reduceEqDiff, Nat.reduceAdd, Nat.reduceLeDiff, Nat.reduceLT, Nat.reduceMul, reduceCtorEq, Int.reduceEq, Int.reduceLT, Int.reduceLE, Int.reduceNeg, Int.reduceToNat, Int.reduceMul, Int.reduceAdd, Int.reduceSub, t0, t6, t7, t8, t9] | simp (disch := (first | omega | (simp only [go_sem]; done) | (simp only [lens]; omega))) only [wrap_u8_id, wrap_u32_id, wrap_u64_id, wrap_i64_id, wrap_i32_id, tmod_nn, tdiv_nn, Int.toNat_natCast, bnd_nh, bnd_ln, bnd_lh, is_str, ix_sl, ir_ptr, ia_agg, tsC_cells, mk_ints, evb_sadd, decide_t, decide_f, hadd_ne', hset_ne', srcC_cells, ap_nil, ap_sl, apC_cells, goNSC_on, goNSC_end, stC_one, stC_agg, fillC_one, fillC_agg, part_t, box_one, box_agg, evb_quo, evb_rem, evb_shl, evb_shr, t0, t6, t7, t8, t9])))
      refine ⟨k, ?_⟩
      ((try simp -implicitDefEqProofs only [later, laterE, laterD, laterR]); (repeat (first | simp -implicitDefEqProofs only [go_sem, ↓reduceIte, Nat.reduceEqDiff, Nat.reduceAdd, Nat.reduceLeDiff, Nat.reduceLT, Nat.reduceMul, reduceCtorEq, Int.reduceEq, Int.reduceLT, Int.reduceLE, Int.reduceNeg, Int.reduceToNat, Int.reduceMul, Int.reduceAdd, Int.reduceSub, t0, t6, t7, t8, t9] | simp (disch := (first | omega | (simp only [go_sem]; done) | (simp only [lens]; omega))) only [wrap_u8_id, wrap_u32_id, wrap_u64_id, wrap_i64_id, wrap_i32_id, tmod_nn, tdiv_nn, Int.toNat_natCast, bnd_nh, bnd_ln, bnd_lh, is_str, ix_sl, ir_ptr, ia_agg, tsC_cells, mk_ints, evb_sadd, decide_t, decide_f, hadd_ne', hset_ne', srcC_cells, ap_nil, ap_sl, apC_cells, goNSC_on, goNSC_end, stC_one, stC_agg, fillC_one, fillC_agg, part_t, box_one, box_agg, evb_quo, evb_rem, evb_shl, evb_shr, t0, t6, t7, t8, t9])))
      refine ⟨by omega, _, by omega, rfl, by rw [siftDown_size _ _ _ _ _ (Nat.le_refl _)]; exact hs, hI, ?_⟩
      ((repeat' apply And.intro) <;> (first | omega | rfl | assumption | (congr 1 <;> omega) | skip))
    | zero =>
      rw [Go.Sort.heapBuild] at hI
      ((try simp -implicitDefEqProofs only [later, laterE, laterD, laterR]); (repeat (first | simp -implicitDefEqProofs only [go_sem, ↓reduceIte, Nat.reduceEqDiff, Nat.reduceAdd, Nat.reduceLeDiff, Nat.reduceLT, Nat.reduceMul, reduceCtorEq, Int.reduceEq, Int.reduceLT, Int.reduceLE, Int.reduceNeg, Int.reduceToNat, Int.reduceMul, Int.reduceAdd, Int.reduceSub, t0, t6, t7, t8, t9] | simp (disch := (first | omega | (simp only [go_sem]; done) | (simp only [lens]; omega))) only [wrap_u8_id, wrap_u32_id, wrap_u64_id, wrap_i64_id, wrap_i32_id, tmod_nn, tdiv_nn, Int.toNat_natCast, bnd_nh, bnd_ln, bnd_lh, is_str, ix_sl, ir_ptr, ia_agg, tsC_cells, mk_ints, evb_sadd, decide_t, decide_f, hadd_ne', hset_ne', srcC_cells, ap_nil, ap_sl, apC_cells, goNSC_on, goNSC_end, stC_one, stC_agg, fillC_one, fillC_agg, part_t, box_one, box_agg, evb_quo, evb_rem, evb_shl, evb_shr, t0, t6, t7, t8, t9])))
      refine E.loopX AC.mono (fun (k : Nat) a' h' => ∃ d2, k ≤ e - a ∧ h' = hadd h b (rowO d2) ∧ d2.size = n ∧ Go.Sort.heapPop ltStr a k d2 = Go.Sort.heapSort ltStr d a e ∧ a'.d = [] ∧ a'.t 0 = .sl b 0 1 n ∧ a'.t 6 = .int .i64 a ∧ a'.t 7 = .int .i64 0 ∧ a'.t 10 = .int .i64 ((k : Int) - 1)) (fun k => k) (e - a) ?_ ?_
      · refine ⟨d1, by omega, rfl, hs, by rw [Go.Sort.heapSort, hI], ?_⟩
        ((try simp -implicitDefEqProofs only [later, laterE, laterD, laterR]); (repeat (first | simp -implicitDefEqProofs only [go_sem, ↓reduceIte, Nat.reduceEqDiff, Nat.reduceAdd, Nat.reduceLeDiff, Nat.reduceLT, Nat.reduceMul, reduceCtorEq, Int.reduceEq, Int.reduceLT, Int.reduceLE, Int.reduceNeg, Int.reduceToNat, Int.reduceMul, Int.reduceAdd, Int.reduceSub, t0, t6, t7, t8, t9] | simp (disch := (first | omega | (simp only [go_sem]; done) | (simp only [lens]; omega))) only [wrap_u8_id, wrap_u32_id, wrap_u64_id, wrap_i64_id, wrap_i32_id, tmod_nn, tdiv_nn, Int.toNat_natCast, bnd_nh, bnd_ln, bnd_lh, is_str, ix_sl, ir_ptr, ia_agg, tsC_cells, mk_ints, evb_sadd, decide_t, decide_f, hadd_ne', hset_ne', srcC_cells, ap_nil, ap_sl, apC_cells, goNSC_on, goNSC_end, stC_one, stC_agg, fillC_one, fillC_agg, part_t, box_one, box_agg, evb_quo, evb_rem, evb_shl, evb_shr, t0, t6, t7, t8, t9])))
        ((repeat' apply And.intro) <;> (first | omega | rfl | assumption | (congr 1 <;> omega) | skip))
      · rintro k ⟨t, ds⟩ h' ⟨d2, hk, rfl, hs2, hI2, hd, t0, t6, t7, t10⟩
        simp only at hd t0 t6 t7 t10; subst hd
        cases k with
        | succ k =>
          rw [Go.Sort.heapPop] at hI2
          have ek : (((k + 1 : Nat) : Int) - 1) = (k : Nat) := by omega
          rw [ek] at t10
          have fit := rowV_len d2
          have e0 : ((a : Int) + k).toNat = a + k := by omega
          have g0 := rowV_get (d := d2) (i := a + k) (by omega)
          have g1 := rowV_get (d := d2) (i := a) (by omega)
          have w1 := rowV_set (d := d2) (i := a) (x := d2[a + k]!) (by omega)
          have w2 := swp_row (d := d2) (i := a) (j := a + k) (by omega) (by omega)
          have fit1 := rowV_len (d2.setIfInBounds a d2[a + k]!)
          rw [Array.size_setIfInBounds] at fit1
          ((try simp -implicitDefEqProofs only [later, laterE, laterD, laterR]); (repeat (first | simp -implicitDefEqProofs only [go_sem, ↓reduceIte, Nat.reduceEqDiff, Nat.reduceAdd, Nat.reduceLeDiff, Nat.reduceLT, Nat.reduceMul, reduceCtorEq, Int.reduceEq, Int.reduceLT, Int.reduceLE, Int.reduceNeg, Int.reduceToNat, Int.reduceMul, Int.reduceAdd, Int.reduceSub, t0, t6, t7, t10, rowO, e0, g0, g1, w1, w2] | simp (disch := (first | omega | (simp only [go_sem]; done) | (simp only [lens]; omega))) only [wrap_u8_id, wrap_u32_id, wrap_u64_id, wrap_i64_id, wrap_i32_id, tmod_nn, tdiv_nn, Int.toNat_natCast, bnd_nh, bnd_ln, bnd_lh, is_str, ix_sl, ir_ptr, ia_agg, tsC_cells, mk_ints, evb_sadd, decide_t, decide_f, hadd_ne', hset_ne', srcC_cells, ap_nil, ap_sl, apC_cells, goNSC_on, goNSC_end, stC_one, stC_agg, fillC_one, fillC_agg, part_t, box_one, box_agg, evb_quo, evb_rem, evb_shl, evb_shr, t0, t6, t7, t10, rowO, e0, g0, g1, w1, w2])))
          refine siftDown_ac (d := swp d2 a (a + k)) hadd_same (by rw [swp_size]; exact hs2) 0 k a (by omega) hl (by omega) ?_
          rw [hadd_twice]
          ((try simp -implicitDefEqProofs only [later, laterE, laterD, laterR]); (repeat (first | simp -implicitDefEqProofs only [go_sem, ↓reduceIte, Nat.reduceEqDiff, Nat.reduceAdd, Nat.reduceLeDiff, Nat.reduceLT, Nat.reduceMul, reduceCtorEq, Int.reduceEq, Int.reduceLT, Int.reduceLE, Int.reduceNeg, Int.reduceToNat, Int.reduceMul, Int.reduceAdd, Int.reduceSub, t0, t6, t7, t10] | simp (disch := (first | omega | (simp only [go_sem]; done) | (simp only [lens]; omega))) only [wrap_u8_id, wrap_u32_id, wrap_u64_id, wrap_i64_id, wrap_i32_id, tmod_nn, tdiv_nn, Int.toNat_natCast, bnd_nh, bnd_ln, bnd_lh, is_str, ix_sl, ir_ptr, ia_agg, tsC_cells, mk_ints, evb_sadd, decide_t, decide_f, hadd_ne', hset_ne', srcC_cells, ap_nil, ap_sl, apC_cells, goNSC_on, goNSC_end, stC_one, stC_agg, fillC_one, fillC_agg, part_t, box_one, box_agg, evb_quo, evb_rem, evb_shl, evb_shr, t0, t6, t7, t10])))
          refine ⟨k, ?_⟩
          ((try simp -implicitDefEqProofs only [later, laterE, laterD, laterR]); (repeat (first | simp -implicitDefEqProofs only [go_sem, ↓reduceIte, Nat.reduceEqDiff, Nat.reduceAdd, Nat.reduceLeDiff, Nat.reduceLT, Nat.reduceMul, reduceCtorEq, Int.reduceEq, Int.reduceLT, Int.reduceLE, Int.reduceNeg, Int.reduceToNat, Int.reduceMul, Int.reduceAdd, Int.reduceSub, t0, t6, t7, t10] | simp (disch := (first | omega | (simp only [go_sem]; done) | (simp only [lens]; omega))) only [wrap_u8_id, wrap_u32_id, wrap_u64_id, wrap_i64_id, wrap_i32_id, tmod_nn, tdiv_nn, Int.toNat_natCast, bnd_nh, bnd_ln, bnd_lh, is_str, ix_sl, ir_ptr, ia_agg, tsC_cells, mk_ints, evb_sadd, decide_t, decide_f, hadd_ne', hset_ne', srcC_cells, ap_nil, ap_sl, apC_cells, goNSC_on, goNSC_end, stC_one, stC_agg, fillC_one, fillC_agg, part_t, box_one, box_agg, evb_quo, evb_rem, evb_shl, evb_shr, t0, t6, t7, t10])))
          exact ⟨by omega, _, by omega, rfl, by rw [siftDown_size _ _ _ _ _ (Nat.le_refl _), swp_size]; exact hs2, hI2⟩
        | zero =>
          rw [Go.Sort.heapPop] at hI2
          subst hI2
          ((try simp -implicitDefEqProofs only [later, laterE, laterD, laterR]); (repeat (first | simp -implicitDefEqProofs only [go_sem, ↓reduceIte, Nat.reduceEqDiff, Nat.reduceAdd, Nat.reduceLeDiff, Nat.reduceLT, Nat.reduceMul, reduceCtorEq, Int.reduceEq, Int.reduceLT, Int.reduceLE, Int.reduceNeg, Int.reduceToNat, Int.reduceMul, Int.reduceAdd, Int.reduceSub, t0, t6, t7, t10] | simp (disch := (first | omega | (simp only [go_sem]; done) | (simp only [lens]; omega))) only [wrap_u8_id, wrap_u32_id, wrap_u64_id, wrap_i64_id, wrap_i32_id, tmod_nn, tdiv_nn, Int.toNat_natCast, bnd_nh, bnd_ln, bnd_lh, is_str, ix_sl, ir_ptr, ia_agg, tsC_cells, mk_ints, evb_sadd, decide_t, decide_f, hadd_ne', hset_ne', srcC_cells, ap_nil, ap_sl, apC_cells, goNSC_on, goNSC_end, stC_one, stC_agg, fillC_one, fillC_agg, part_t, box_one, box_agg, evb_quo, evb_rem, evb_shl, evb_shr, t0, t6, t7, t10])))
          exact ⟨_, Sub.refl, hq⟩
end Go.Proofs.Ytijipnkdabdioaa
namespace Go.Proofs.Ytijipnkdabdioaa
open Mir
open Go.Sort (ltStr swp)
variable {h : H} {Q : V → H → Prop} {b n : Nat} {d : Txts}
theorem shiftDown_size : ∀ (j : Nat) (d : Txts), (Go.Sort.shiftDown ltStr j d).size = d.size
  | 0, d => rfl
  | j + 1, d => by
    rw [Go.Sort.shiftDown]
    split
    · rfl
    · rw [shiftDown_size j, swp_size]
theorem shiftUp_size (e : Nat) : ∀ (m j : Nat) (d : Txts), e - j ≤ m → (Go.Sort.shiftUp ltStr e j d).size = d.size := by
  intro m
  induction m with
  | zero => intro j d hm; rw [Go.Sort.shiftUp, if_neg (by omega)]
  | succ m ih =>
    intro j d hm
    rw [Go.Sort.shiftUp]
    split
    · split
      · rfl
      · rw [ih _ _ (by omega), swp_size]
    · rfl
theorem scanSorted_ge (d : Txts) (e : Nat) : ∀ (m i : Nat), e - i ≤ m → i ≤ Go.Sort.scanSorted ltStr d e i := by
  intro m
  induction m with
  | zero => intro i hm; rw [Go.Sort.scanSorted]; split
            · rename_i c; simp at c; omega
            · exact Nat.le_refl _
  | succ m ih =>
    intro i hm
    rw [Go.Sort.scanSorted]
    split
    · exact Nat.le_trans (Nat.le_succ i) (ih _ (by omega))
    · exact Nat.le_refl _
theorem partial_ac (hb : h b = some (rowO d)) (hn : d.size = n) (a e : Nat) (hae : a < e) (he : e ≤ n) (hl : n < 4294967296) (hq : Q (.bool (Go.Sort.partialInsertionSort ltStr d a e).2) (hadd h b (rowO (Go.Sort.partialInsertionSort ltStr d a e).1))) :
    AC pg (.fn 74) [.sl b 0 1 n, .int .i64 a, .int .i64 e] h Q := by
  refine AC.fn' (g := g74) rfl (by simp only [List.length_cons, List.length_nil, g74]; decide) ?_; simp only [g74]
  ((try simp -implicitDefEqProofs only [later, laterE, laterD, laterR]); (repeat (first | simp -implicitDefEqProofs only [go_sem, ↓reduceIte, Nat.reduceEqDiff, Nat.reduceAdd, Nat.reduceLeDiff, Nat.reduceLT, Nat.reduceMul, reduceCtorEq, Int.reduceEq, Int.reduceLT, Int.reduceLE, Int.reduceNeg, Int.reduceToNat, Int.reduceMul, Int.reduceAdd, Int.reduceSub] | simp (disch := (first | omega | (simp only [go_sem]; done) | (simp only [lens]; omega))) only [wrap_u8_id, wrap_u32_id, wrap_u64_id, wrap_i64_id, wrap_i32_id, tmod_nn, tdiv_nn, Int.toNat_natCast, bnd_nh, bnd_ln, bnd_lh, is_str, ix_sl, ir_ptr, ia_agg, tsC_cells, mk_ints, evb_sadd, decide_t, decide_f, hadd_ne', hset_ne', srcC_cells, ap_nil, ap_sl, apC_cells, goNSC_on, goNSC_end, stC_one, stC_agg, fillC_one, fillC_agg, part_t, box_one, box_agg, evb_quo, evb_rem, evb_shl, evb_shr])))
  refine E.loopX AC.mono (fun (x : Nat × Nat) a' h' => ∃ d1, x.1 ≤ 5 ∧ a + 1 ≤ x.2 ∧ x.2 ≤ e ∧ h' = hadd h b (rowO d1) ∧ d1.size = n ∧ Go.Sort.partialIns ltStr a e x.1 x.2 d1 = Go.Sort.partialInsertionSort ltStr d a e ∧ a'.d = [] ∧ a'.t 0 = .sl b 0 1 n ∧ a'.t 1 = .int .i64 a ∧ a'.t 2 = .int .i64 e ∧ a'.t 7 = .int .i64 x.2 ∧ a'.t 8 = .int .i64 (5 - (x.1 : Int))) (fun x => x.1) (5, a + 1) ?_ ?_
  · refine ⟨d, Nat.le_refl _, Nat.le_refl _, by omega, (hadd_self hb).symm, hn, rfl, ?_⟩
    ((try simp -implicitDefEqProofs only [later, laterE, laterD, laterR]); (repeat (first | simp -implicitDefEqProofs only [go_sem, ↓reduceIte, Nat.reduceEqDiff, Nat.reduceAdd, Nat.reduceLeDiff, Nat.reduceLT, Nat.reduceMul, reduceCtorEq, Int.reduceEq, Int.reduceLT, Int.reduceLE, Int.reduceNeg, Int.reduceToNat, Int.reduceMul, Int.reduceAdd, Int.reduceSub] | simp (disch := (first | omega | (simp only [go_sem]; done) | (simp only [lens]; omega))) only [wrap_u8_id, wrap_u32_id, wrap_u64_id, wrap_i64_id, wrap_i32_id, tmod_nn, tdiv_nn, Int.toNat_natCast, bnd_nh, bnd_ln, bnd_lh, is_str, ix_sl, ir_ptr, ia_agg, tsC_cells, mk_ints, evb_sadd, decide_t, decide_f, hadd_ne', hset_ne', srcC_cells, ap_nil, ap_sl, apC_cells, goNSC_on, goNSC_end, stC_one, stC_agg, fillC_one, fillC_agg, part_t, box_one, box_agg, evb_quo, evb_rem, evb_shl, evb_shr])))
    ((repeat' apply And.intro) <;> (first | omega | rfl | assumption | (congr 1 <;> omega) | skip))
  · rintro ⟨s, i⟩ ⟨t, ds⟩ h' ⟨d1, hs5, hi1, hi2, rfl, hs, hI, hd, t0, t1, t2, t7, t8⟩
    simp only at hs5 hi1 hi2 hI hd t0 t1 t2 t7 t8; subst hd
    simp only
    have fit := rowV_len d1
    cases s with
    | zero =>
      rw [Go.Sort.partialIns] at hI
      rw [← hI] at hq
      ((try simp -implicitDefEqProofs only [later, laterE, laterD, laterR]); (repeat (first | simp -implicitDefEqProofs only [go_sem, ↓reduceIte, Nat.reduceEqDiff, Nat.reduceAdd, Nat.reduceLeDiff, Nat.reduceLT, Nat.reduceMul, reduceCtorEq, Int.reduceEq, Int.reduceLT, Int.reduceLE, Int.reduceNeg, Int.reduceToNat, Int.reduceMul, Int.reduceAdd, Int.reduceSub, t0, t1, t2, t7, t8] | simp (disch := (first | omega | (simp only [go_sem]; done) | (simp only [lens]; omega))) only [wrap_u8_id, wrap_u32_id, wrap_u64_id, wrap_i64_id, wrap_i32_id, tmod_nn, tdiv_nn, Int.toNat_natCast, bnd_nh, bnd_ln, bnd_lh, is_str, ix_sl, ir_ptr, ia_agg, tsC_cells, mk_ints, evb_sadd, decide_t, decide_f, hadd_ne', hset_ne', srcC_cells, ap_nil, ap_sl, apC_cells, goNSC_on, goNSC_end, stC_one, stC_agg, fillC_one, fillC_agg, part_t, box_one, box_agg, evb_quo, evb_rem, evb_shl, evb_shr, t0, t1, t2, t7, t8])))
      exact ⟨_, Sub.refl, hq⟩
    | succ s =>
      rw [Go.Sort.partialIns_succ] at hI
      have hge := scanSorted_ge d1 e _ i (Nat.le_refl _)
      generalize hI0 : Go.Sort.scanSorted ltStr d1 e i = I at *
      ((try simp -implicitDefEqProofs only [later, laterE, laterD, laterR]); (repeat (first | simp -implicitDefEqProofs only [go_sem, ↓reduceIte, Nat.reduceEqDiff, Nat.reduceAdd, Nat.reduceLeDiff, Nat.reduceLT, Nat.reduceMul, reduceCtorEq, Int.reduceEq, Int.reduceLT, Int.reduceLE, Int.reduceNeg, Int.reduceToNat, Int.reduceMul, Int.reduceAdd, Int.reduceSub, t0, t1, t2, t7, t8] | simp (disch := (first | omega | (simp only [go_sem]; done) | (simp only [lens]; omega))) only [wrap_u8_id, wrap_u32_id, wrap_u64_id, wrap_i64_id, wrap_i32_id, tmod_nn, tdiv_nn, Int.toNat_natCast, bnd_nh, bnd_ln, bnd_lh, is_str, ix_sl, ir_ptr, ia_agg, tsC_cells, mk_ints, evb_sadd, decide_t, decide_f, hadd_ne', hset_ne', srcC_cells, ap_nil, ap_sl, apC_cells, goNSC_on, goNSC_end, stC_one, stC_agg, fillC_one, fillC_agg, part_t, box_one, box_agg, evb_quo, evb_rem, evb_shl, evb_shr, t0, t1, t2, t7, t8])))
      have hIe : I ≤ e := by
        rw [← hI0]
        have key : ∀ (m k : Nat), e - k ≤ m → k ≤ e → Go.Sort.scanSorted ltStr d1 e k ≤ e := by
          intro m
          induction m with
          | zero => intro k hm hk; rw [Go.Sort.scanSorted]; split
                    · rename_i c; simp at c; omega
                    · exact hk
          | succ m ih =>
            intro k hm hk
            rw [Go.Sort.scanSorted]
            split
            · rename_i c; simp at c; exact ih _ (by omega) (by omega)
            · exact hk
        exact key _ i (Nat.le_refl _) hi2
      refine E.cut AC.mono (fun ex a' h' => ex = .exit 2 ∧ h' = hadd h b (rowO d1) ∧ a'.d = [] ∧ a'.t 0 = .sl b 0 1 n ∧ a'.t 1 = .int .i64 a ∧ a'.t 2 = .int .i64 e ∧ a'.t 7 = .int .i64 I ∧ a'.t 8 = .int .i64 (5 - ((s + 1 : Nat) : Int))) ?_ ?_
      · refine E.loopX AC.mono (fun (k : Nat) a' h' => i ≤ k ∧ k ≤ e ∧ h' = hadd h b (rowO d1) ∧ Go.Sort.scanSorted ltStr d1 e k = I ∧ a'.d = [] ∧ a'.t 0 = .sl b 0 1 n ∧ a'.t 1 = .int .i64 a ∧ a'.t 2 = .int .i64 e ∧ a'.t 7 = .int .i64 k ∧ a'.t 8 = .int .i64 (5 - ((s + 1 : Nat) : Int))) (fun k => e - k) i ?_ ?_
        · refine ⟨Nat.le_refl _, hi2, rfl, hI0, ?_⟩
          ((try simp -implicitDefEqProofs only [later, laterE, laterD, laterR]); (repeat (first | simp -implicitDefEqProofs only [go_sem, ↓reduceIte, Nat.reduceEqDiff, Nat.reduceAdd, Nat.reduceLeDiff, Nat.reduceLT, Nat.reduceMul, reduceCtorEq, Int.reduceEq, Int.reduceLT, Int.reduceLE, Int.reduceNeg, Int.reduceToNat, Int.reduceMul, Int.reduceAdd, Int.reduceSub, t0, t1, t2, t7, t8] | simp (disch := (first | omega | (simp only [go_sem]; done) | (simp only [lens]; omega))) only [wrap_u8_id, wrap_u32_id, wrap_u64_id, wrap_i64_id, wrap_i32_id, tmod_nn, tdiv_nn, Int.toNat_natCast, bnd_nh, bnd_ln, bnd_lh, is_str, ix_sl, ir_ptr, ia_agg, tsC_cells, mk_ints, evb_sadd, decide_t, decide_f, hadd_ne', hset_ne', srcC_cells, ap_nil, ap_sl, apC_cells, goNSC_on, goNSC_end, stC_one, stC_agg, fillC_one, fillC_agg, part_t, box_one, box_agg, evb_quo, evb_rem, evb_shl, evb_shr, t0, t1, t2, t7, t8])))
        · rintro k ⟨t, ds⟩ h' ⟨hk1, hk2, rfl, hK, hd, t0, t1, t2, t7, t8⟩
          simp only at hd t0 t1 t2 t7 t8; subst hd
          rw [Go.Sort.scanSorted] at hK
          by_cases ck : (k : Int) < e
          · have ek : ((k : Int) - 1).toNat = k - 1 := by omega
            have g0 := rowV_get (d := d1) (i := k) (by omega)
            have g1 := rowV_get (d := d1) (i := k - 1) (by omega)
            ((try simp -implicitDefEqProofs only [later, laterE, laterD, laterR]); (repeat (first | simp -implicitDefEqProofs only [go_sem, ↓reduceIte, Nat.reduceEqDiff, Nat.reduceAdd, Nat.reduceLeDiff, Nat.reduceLT, Nat.reduceMul, reduceCtorEq, Int.reduceEq, Int.reduceLT, Int.reduceLE, Int.reduceNeg, Int.reduceToNat, Int.reduceMul, Int.reduceAdd, Int.reduceSub, t0, t1, t2, t7, t8, rowO, ek, g0, g1] | simp (disch := (first | omega | (simp only [go_sem]; done) | (simp only [lens]; omega))) only [wrap_u8_id, wrap_u32_id, wrap_u64_id, wrap_i64_id, wrap_i32_id, tmod_nn, tdiv_nn, Int.toNat_natCast, bnd_nh, bnd_ln, bnd_lh, is_str, ix_sl, ir_ptr, ia_agg, tsC_cells, mk_ints, evb_sadd, decide_t, decide_f, hadd_ne', hset_ne', srcC_cells, ap_nil, ap_sl, apC_cells, goNSC_on, goNSC_end, stC_one, stC_agg, fillC_one, fillC_agg, part_t, box_one, box_agg, evb_quo, evb_rem, evb_shl, evb_shr, t0, t1, t2, t7, t8, rowO, ek, g0, g1])))
            refine less_ac _ _ ?_
            cases hlt : ltStr d1[k]! d1[k - 1]!
            · rw [hlt, decide_eq_true (show k < e by omega), if_pos (by decide)] at hK
              ((try simp -implicitDefEqProofs only [later, laterE, laterD, laterR]); (repeat (first | simp -implicitDefEqProofs only [go_sem, ↓reduceIte, Nat.reduceEqDiff, Nat.reduceAdd, Nat.reduceLeDiff, Nat.reduceLT, Nat.reduceMul, reduceCtorEq, Int.reduceEq, Int.reduceLT, Int.reduceLE, Int.reduceNeg, Int.reduceToNat, Int.reduceMul, Int.reduceAdd, Int.reduceSub, t0, t1, t2, t7, t8] | simp (disch := (first | omega | (simp only [go_sem]; done) | (simp only [lens]; omega))) only [wrap_u8_id, wrap_u32_id, wrap_u64_id, wrap_i64_id, wrap_i32_id, tmod_nn, tdiv_nn, Int.toNat_natCast, bnd_nh, bnd_ln, bnd_lh, is_str, ix_sl, ir_ptr, ia_agg, tsC_cells, mk_ints, evb_sadd, decide_t, decide_f, hadd_ne', hset_ne', srcC_cells, ap_nil, ap_sl, apC_cells, goNSC_on, goNSC_end, stC_one, stC_agg, fillC_one, fillC_agg, part_t, box_one, box_agg, evb_quo, evb_rem, evb_shl, evb_shr, t0, t1, t2, t7, t8])))
              refine ⟨k + 1, ?_⟩
              ((try simp -implicitDefEqProofs only [later, laterE, laterD, laterR]); (repeat (first | simp -implicitDefEqProofs only [go_sem, ↓reduceIte, Nat.reduceEqDiff, Nat.reduceAdd, Nat.reduceLeDiff, Nat.reduceLT, Nat.reduceMul, reduceCtorEq, Int.reduceEq, Int.reduceLT, Int.reduceLE, Int.reduceNeg, Int.reduceToNat, Int.reduceMul, Int.reduceAdd, Int.reduceSub, t0, t1, t2, t7, t8] | simp (disch := (first | omega | (simp only [go_sem]; done) | (simp only [lens]; omega))) only [wrap_u8_id, wrap_u32_id, wrap_u64_id, wrap_i64_id, wrap_i32_id, tmod_nn, tdiv_nn, Int.toNat_natCast, bnd_nh, bnd_ln, bnd_lh, is_str, ix_sl, ir_ptr, ia_agg, tsC_cells, mk_ints, evb_sadd, decide_t, decide_f, hadd_ne', hset_ne', srcC_cells, ap_nil, ap_sl, apC_cells, goNSC_on, goNSC_end, stC_one, stC_agg, fillC_one, fillC_agg, part_t, box_one, box_agg, evb_quo, evb_rem, evb_shl, evb_shr, t0, t1, t2, t7, t8])))
              refine ⟨by omega, by omega, by omega, hK, ?_⟩
              ((repeat' apply And.intro) <;> (first | omega | rfl | assumption | (congr 1 <;> omega) | skip))
            · rw [hlt, Bool.not_true, Bool.and_false, if_neg (by decide)] at hK
              subst hK
              ((try simp -implicitDefEqProofs only [later, laterE, laterD, laterR]); (repeat (first | simp -implicitDefEqProofs only [go_sem, ↓reduceIte, Nat.reduceEqDiff, Nat.reduceAdd, Nat.reduceLeDiff, Nat.reduceLT, Nat.reduceMul, reduceCtorEq, Int.reduceEq, Int.reduceLT, Int.reduceLE, Int.reduceNeg, Int.reduceToNat, Int.reduceMul, Int.reduceAdd, Int.reduceSub, t0, t1, t2, t7, t8] | simp (disch := (first | omega | (simp only [go_sem]; done) | (simp only [lens]; omega))) only [wrap_u8_id, wrap_u32_id, wrap_u64_id, wrap_i64_id, wrap_i32_id, tmod_nn, tdiv_nn, Int.toNat_natCast, bnd_nh, bnd_ln, bnd_lh, is_str, ix_sl, ir_ptr, ia_agg, tsC_cells, mk_ints, evb_sadd, decide_t, decide_f, hadd_ne', hset_ne', srcC_cells, ap_nil, ap_sl, apC_cells, goNSC_on, goNSC_end, stC_one, stC_agg, fillC_one, fillC_agg, part_t, box_one, box_agg, evb_quo, evb_rem, evb_shl, evb_shr, t0, t1, t2, t7, t8])))
          · rw [decide_eq_false (show ¬ k < e by omega), Bool.false_and, if_neg (by decide)] at hK
            subst hK
            ((try simp -implicitDefEqProofs only [later, laterE, laterD, laterR]); (repeat (first | simp -implicitDefEqProofs only [go_sem, ↓reduceIte, Nat.reduceEqDiff, Nat.reduceAdd, Nat.reduceLeDiff, Nat.reduceLT, Nat.reduceMul, reduceCtorEq, Int.reduceEq, Int.reduceLT, Int.reduceLE, Int.reduceNeg, Int.reduceToNat, Int.reduceMul, Int.reduceAdd, Int.reduceSub, t0, t1, t2, t7, t8] | simp (disch := (first | omega | (simp only [go_sem]; done) | (simp only [lens]; omega))) only [wrap_u8_id, wrap_u32_id, wrap_u64_id, wrap_i64_id, wrap_i32_id, tmod_nn, tdiv_nn, Int.toNat_natCast, bnd_nh, bnd_ln, bnd_lh, is_str, ix_sl, ir_ptr, ia_agg, tsC_cells, mk_ints, evb_sadd, decide_t, decide_f, hadd_ne', hset_ne', srcC_cells, ap_nil, ap_sl, apC_cells, goNSC_on, goNSC_end, stC_one, stC_agg, fillC_one, fillC_agg, part_t, box_one, box_agg, evb_quo, evb_rem, evb_shl, evb_shr, t0, t1, t2, t7, t8])))
      · rintro ex ⟨t, ds⟩ h' ⟨rfl, rfl, hd, t0, t1, t2, t7, t8⟩
        simp only at hd t0 t1 t2 t7 t8; subst hd
        by_cases c1 : I = e
        · rw [if_pos c1] at hI
          rw [← hI] at hq
          have c1' : (I : Int) = e := by omega
          ((try simp -implicitDefEqProofs only [later, laterE, laterD, laterR]); (repeat (first | simp -implicitDefEqProofs only [go_sem, ↓reduceIte, Nat.reduceEqDiff, Nat.reduceAdd, Nat.reduceLeDiff, Nat.reduceLT, Nat.reduceMul, reduceCtorEq, Int.reduceEq, Int.reduceLT, Int.reduceLE, Int.reduceNeg, Int.reduceToNat, Int.reduceMul, Int.reduceAdd, Int.reduceSub, t0, t1, t2, t7, t8] | simp (disch := (first | omega | (simp only [go_sem]; done) | (simp only [lens]; omega))) only [wrap_u8_id, wrap_u32_id, wrap_u64_id, wrap_i64_id, wrap_i32_id, tmod_nn, tdiv_nn, Int.toNat_natCast, bnd_nh, bnd_ln, bnd_lh, is_str, ix_sl, ir_ptr, ia_agg, tsC_cells, mk_ints, evb_sadd, decide_t, decide_f, hadd_ne', hset_ne', srcC_cells, ap_nil, ap_sl, apC_cells, goNSC_on, goNSC_end, stC_one, stC_agg, fillC_one, fillC_agg, part_t, box_one, box_agg, evb_quo, evb_rem, evb_shl, evb_shr, t0, t1, t2, t7, t8])))
          exact ⟨_, Sub.refl, hq⟩
        rw [if_neg c1] at hI
        have c1' : ¬ (I : Int) = e := by omega
        by_cases c2 : e - a < 50
        · rw [if_pos c2] at hI
          rw [← hI] at hq
          ((try simp -implicitDefEqProofs only [later, laterE, laterD, laterR]); (repeat (first | simp -implicitDefEqProofs only [go_sem, ↓reduceIte, Nat.reduceEqDiff, Nat.reduceAdd, Nat.reduceLeDiff, Nat.reduceLT, Nat.reduceMul, reduceCtorEq, Int.reduceEq, Int.reduceLT, Int.reduceLE, Int.reduceNeg, Int.reduceToNat, Int.reduceMul, Int.reduceAdd, Int.reduceSub, t0, t1, t2, t7, t8] | simp (disch := (first | omega | (simp only [go_sem]; done) | (simp only [lens]; omega))) only [wrap_u8_id, wrap_u32_id, wrap_u64_id, wrap_i64_id, wrap_i32_id, tmod_nn, tdiv_nn, Int.toNat_natCast, bnd_nh, bnd_ln, bnd_lh, is_str, ix_sl, ir_ptr, ia_agg, tsC_cells, mk_ints, evb_sadd, decide_t, decide_f, hadd_ne', hset_ne', srcC_cells, ap_nil, ap_sl, apC_cells, goNSC_on, goNSC_end, stC_one, stC_agg, fillC_one, fillC_agg, part_t, box_one, box_agg, evb_quo, evb_rem, evb_shl, evb_shr, t0, t1, t2, t7, t8])))
          exact ⟨_, Sub.refl, hq⟩
        rw [if_neg c2] at hI
        have eI : ((I : Int) - 1).toNat = I - 1 := by omega
        have g0 := rowV_get (d := d1) (i := I) (by omega)
        have g1 := rowV_get (d := d1) (i := I - 1) (by omega)
        have w1 := rowV_set (d := d1) (i := I) (x := d1[I - 1]!) (by omega)
        have w2 := swp_row (d := d1) (i := I) (j := I - 1) (by omega) (by omega)
        have fit1 := rowV_len (d1.setIfInBounds I d1[I - 1]!)
        rw [Array.size_setIfInBounds] at fit1
        have hs1 : (swp d1 I (I - 1)).size = n := by rw [swp_size]; exact hs
        ((try simp -implicitDefEqProofs only [later, laterE, laterD, laterR]); (repeat (first | simp -implicitDefEqProofs only [go_sem, ↓reduceIte, Nat.reduceEqDiff, Nat.reduceAdd, Nat.reduceLeDiff, Nat.reduceLT, Nat.reduceMul, reduceCtorEq, Int.reduceEq, Int.reduceLT, Int.reduceLE, Int.reduceNeg, Int.reduceToNat, Int.reduceMul, Int.reduceAdd, Int.reduceSub, t0, t1, t2, t7, t8, eI, rowO, g0, g1, w1, w2] | simp (disch := (first | omega | (simp only [go_sem]; done) | (simp only [lens]; omega))) only [wrap_u8_id, wrap_u32_id, wrap_u64_id, wrap_i64_id, wrap_i32_id, tmod_nn, tdiv_nn, Int.toNat_natCast, bnd_nh, bnd_ln, bnd_lh, is_str, ix_sl, ir_ptr, ia_agg, tsC_cells, mk_ints, evb_sadd, decide_t, decide_f, hadd_ne', hset_ne', srcC_cells, ap_nil, ap_sl, apC_cells, goNSC_on, goNSC_end, stC_one, stC_agg, fillC_one, fillC_agg, part_t, box_one, box_agg, evb_quo, evb_rem, evb_shl, evb_shr, t0, t1, t2, t7, t8, eI, rowO, g0, g1, w1, w2])))
        generalize hdA : swp d1 I (I - 1) = dA at *
        clear w1 w2 fit1 g0 g1 fit
        refine goC.cut AC.mono (fun ex a' h' => ex = .nm ∧ h' = hadd h b (rowO (Go.Sort.fixDown ltStr a I dA)) ∧ a'.d = [] ∧ a'.t 0 = .sl b 0 1 n ∧ a'.t 1 = .int .i64 a ∧ a'.t 2 = .int .i64 e ∧ a'.t 7 = .int .i64 I ∧ a'.t 8 = .int .i64 (5 - ((s + 1 : Nat) : Int))) ?_ ?_
        · unfold Go.Sort.fixDown
          by_cases c3 : I - a ≥ 2
          · rw [if_pos c3]
            ((try simp -implicitDefEqProofs only [later, laterE, laterD, laterR]); (repeat (first | simp -implicitDefEqProofs only [go_sem, ↓reduceIte, Nat.reduceEqDiff, Nat.reduceAdd, Nat.reduceLeDiff, Nat.reduceLT, Nat.reduceMul, reduceCtorEq, Int.reduceEq, Int.reduceLT, Int.reduceLE, Int.reduceNeg, Int.reduceToNat, Int.reduceMul, Int.reduceAdd, Int.reduceSub, t0, t1, t2, t7, t8] | simp (disch := (first | omega | (simp only [go_sem]; done) | (simp only [lens]; omega))) only [wrap_u8_id, wrap_u32_id, wrap_u64_id, wrap_i64_id, wrap_i32_id, tmod_nn, tdiv_nn, Int.toNat_natCast, bnd_nh, bnd_ln, bnd_lh, is_str, ix_sl, ir_ptr, ia_agg, tsC_cells, mk_ints, evb_sadd, decide_t, decide_f, hadd_ne', hset_ne', srcC_cells, ap_nil, ap_sl, apC_cells, goNSC_on, goNSC_end, stC_one, stC_agg, fillC_one, fillC_agg, part_t, box_one, box_agg, evb_quo, evb_rem, evb_shl, evb_shr, t0, t1, t2, t7, t8])))
            refine E.loopX AC.mono (fun (j : Nat) a' h' => ∃ d2, j ≤ I - 1 ∧ h' = hadd h b (rowO d2) ∧ d2.size = n ∧ Go.Sort.shiftDown ltStr j d2 = Go.Sort.shiftDown ltStr (I - 1) dA ∧ a'.d = [] ∧ a'.t 0 = .sl b 0 1 n ∧ a'.t 1 = .int .i64 a ∧ a'.t 2 = .int .i64 e ∧ a'.t 7 = .int .i64 I ∧ a'.t 8 = .int .i64 (5 - ((s + 1 : Nat) : Int)) ∧ a'.t 9 = .int .i64 j) (fun j => j) (I - 1) ?_ ?_
            · refine ⟨dA, Nat.le_refl _, rfl, hs1, rfl, ?_⟩
              ((try simp -implicitDefEqProofs only [later, laterE, laterD, laterR]); (repeat (first | simp -implicitDefEqProofs only [go_sem, ↓reduceIte, Nat.reduceEqDiff, Nat.reduceAdd, Nat.reduceLeDiff, Nat.reduceLT, Nat.reduceMul, reduceCtorEq, Int.reduceEq, Int.reduceLT, Int.reduceLE, Int.reduceNeg, Int.reduceToNat, Int.reduceMul, Int.reduceAdd, Int.reduceSub, t0, t1, t2, t7, t8] | simp (disch := (first | omega | (simp only [go_sem]; done) | (simp only [lens]; omega))) only [wrap_u8_id, wrap_u32_id, wrap_u64_id, wrap_i64_id, wrap_i32_id, tmod_nn, tdiv_nn, Int.toNat_natCast, bnd_nh, bnd_ln, bnd_lh, is_str, ix_sl, ir_ptr, ia_agg, tsC_cells, mk_ints, evb_sadd, decide_t, decide_f, hadd_ne', hset_ne', srcC_cells, ap_nil, ap_sl, apC_cells, goNSC_on, goNSC_end, stC_one, stC_agg, fillC_one, fillC_agg, part_t, box_one, box_agg, evb_quo, evb_rem, evb_shl, evb_shr, t0, t1, t2, t7, t8])))
              ((repeat' apply And.intro) <;> (first | omega | rfl | assumption | (congr 1 <;> omega) | skip))
            · rintro j ⟨t, ds⟩ h' ⟨d2, hj, rfl, hs2, hJ, hd, t0, t1, t2, t7, t8, t9⟩
              simp only at hd t0 t1 t2 t7 t8 t9; subst hd
              cases j with
              | zero =>
                rw [Go.Sort.shiftDown] at hJ
                subst hJ
                ((try simp -implicitDefEqProofs only [later, laterE, laterD, laterR]); (repeat (first | simp -implicitDefEqProofs only [go_sem, ↓reduceIte, Nat.reduceEqDiff, Nat.reduceAdd, Nat.reduceLeDiff, Nat.reduceLT, Nat.reduceMul, reduceCtorEq, Int.reduceEq, Int.reduceLT, Int.reduceLE, Int.reduceNeg, Int.reduceToNat, Int.reduceMul, Int.reduceAdd, Int.reduceSub, t0, t1, t2, t7, t8, t9] | simp (disch := (first | omega | (simp only [go_sem]; done) | (simp only [lens]; omega))) only [wrap_u8_id, wrap_u32_id, wrap_u64_id, wrap_i64_id, wrap_i32_id, tmod_nn, tdiv_nn, Int.toNat_natCast, bnd_nh, bnd_ln, bnd_lh, is_str, ix_sl, ir_ptr, ia_agg, tsC_cells, mk_ints, evb_sadd, decide_t, decide_f, hadd_ne', hset_ne', srcC_cells, ap_nil, ap_sl, apC_cells, goNSC_on, goNSC_end, stC_one, stC_agg, fillC_one, fillC_agg, part_t, box_one, box_agg, evb_quo, evb_rem, evb_shl, evb_shr, t0, t1, t2, t7, t8, t9])))
              | succ j =>
                rw [Go.Sort.shiftDown] at hJ
                have fit := rowV_len d2
                have ej : (((j + 1 : Nat) : Int) - 1).toNat = j := by omega
                have g0 := rowV_get (d := d2) (i := j + 1) (by omega)
                have g1 := rowV_get (d := d2) (i := j) (by omega)
                have w1 := rowV_set (d := d2) (i := j + 1) (x := d2[j]!) (by omega)
                have w2 := swp_row (d := d2) (i := j + 1) (j := j) (by omega) (by omega)
                have fit1 := rowV_len (d2.setIfInBounds (j + 1) d2[j]!)
                rw [Array.size_setIfInBounds] at fit1
                ((try simp -implicitDefEqProofs only [later, laterE, laterD, laterR]); (repeat (first | simp -implicitDefEqProofs only [go_sem, ↓reduceIte, Nat.reduceEqDiff, Nat.reduceAdd, Nat.reduceLeDiff, Nat.reduceLT, Nat.reduceMul, reduceCtorEq, Int.reduceEq, Int.reduceLT, Int.reduceLE, Int.reduceNeg, Int.reduceToNat, Int.reduceMul, Int.reduceAdd, Int.reduceSub, t0, t1, t2, t7, t8, t9, ej, rowO, g0, g1] | simp (disch := (first | omega | (simp only [go_sem]; done) | (simp only [lens]; omega))) only [wrap_u8_id, wrap_u32_id, wrap_u64_id, wrap_i64_id, wrap_i32_id, tmod_nn, tdiv_nn, Int.toNat_natCast, bnd_nh, bnd_ln, bnd_lh, is_str, ix_sl, ir_ptr, ia_agg, tsC_cells, mk_ints, evb_sadd, decide_t, decide_f, hadd_ne', hset_ne', srcC_cells, ap_nil, ap_sl, apC_cells, goNSC_on, goNSC_end, stC_one, stC_agg, fillC_one, fillC_agg, part_t, box_one, box_agg, evb_quo, evb_rem, evb_shl, evb_shr, t0, t1, t2, t7, t8, t9, ej, rowO, g0, g1])))
                refine less_ac _ _ ?_
                cases hlt : ltStr d2[j + 1]! d2[j]!
                · rw [hlt, if_pos (by decide)] at hJ
                  subst hJ
                  ((try simp -implicitDefEqProofs only [later, laterE, laterD, laterR]); (repeat (first | simp -implicitDefEqProofs only [go_sem, ↓reduceIte, Nat.reduceEqDiff, Nat.reduceAdd, Nat.reduceLeDiff, Nat.reduceLT, Nat.reduceMul, reduceCtorEq, Int.reduceEq, Int.reduceLT, Int.reduceLE, Int.reduceNeg, Int.reduceToNat, Int.reduceMul, Int.reduceAdd, Int.reduceSub, t0, t1, t2, t7, t8, t9] | simp (disch := (first | omega | (simp only [go_sem]; done) | (simp only [lens]; omega))) only [wrap_u8_id, wrap_u32_id, wrap_u64_id, wrap_i64_id, wrap_i32_id, tmod_nn, tdiv_nn, Int.toNat_natCast, bnd_nh, bnd_ln, bnd_lh, is_str, ix_sl, ir_ptr, ia_agg, tsC_cells, mk_ints, evb_sadd, decide_t, decide_f, hadd_ne', hset_ne', srcC_cells, ap_nil, ap_sl, apC_cells, goNSC_on, goNSC_end, stC_one, stC_agg, fillC_one, fillC_agg, part_t, box_one, box_agg, evb_quo, evb_rem, evb_shl, evb_shr, t0, t1, t2, t7, t8, t9])))
                · rw [hlt, if_neg (by decide)] at hJ
                  ((try simp -implicitDefEqProofs only [later, laterE, laterD, laterR]); (repeat (first | simp -implicitDefEqProofs only [go_sem, ↓reduceIte, Nat.reduceEqDiff, Nat.reduceAdd, Nat.reduceLeDiff, Nat.reduceLT, Nat.reduceMul, reduceCtorEq, Int.reduceEq, Int.reduceLT, Int.reduceLE, Int.reduceNeg, Int.reduceToNat, Int.reduceMul, Int.reduceAdd, Int.reduceSub, t0, t1, t2, t7, t8, t9, ej, rowO, g0, g1, w1, w2] | simp (disch := (first | omega | (simp only [go_sem]; done) | (simp only [lens]; omega))) only [wrap_u8_id, wrap_u32_id, wrap_u64_id, wrap_i64_id, wrap_i32_id, tmod_nn, tdiv_nn, Int.toNat_natCast, bnd_nh, bnd_ln, bnd_lh, is_str, ix_sl, ir_ptr, ia_agg, tsC_cells, mk_ints, evb_sadd, decide_t, decide_f, hadd_ne', hset_ne', srcC_cells, ap_nil, ap_sl, apC_cells, goNSC_on, goNSC_end, stC_one, stC_agg, fillC_one, fillC_agg, part_t, box_one, box_agg, evb_quo, evb_rem, evb_shl, evb_shr, t0, t1, t2, t7, t8, t9, ej, rowO, g0, g1, w1, w2])))
                  refine ⟨j, ?_⟩
                  ((try simp -implicitDefEqProofs only [later, laterE, laterD, laterR]); (repeat (first | simp -implicitDefEqProofs only [go_sem, ↓reduceIte, Nat.reduceEqDiff, Nat.reduceAdd, Nat.reduceLeDiff, Nat.reduceLT, Nat.reduceMul, reduceCtorEq, Int.reduceEq, Int.reduceLT, Int.reduceLE, Int.reduceNeg, Int.reduceToNat, Int.reduceMul, Int.reduceAdd, Int.reduceSub, t0, t1, t2, t7, t8, t9] | simp (disch := (first | omega | (simp only [go_sem]; done) | (simp only [lens]; omega))) only [wrap_u8_id, wrap_u32_id, wrap_u64_id, wrap_i64_id, wrap_i32_id, tmod_nn, tdiv_nn, Int.toNat_natCast, bnd_nh, bnd_ln, bnd_lh, is_str, ix_sl, ir_ptr, ia_agg, tsC_cells, mk_ints, evb_sadd, decide_t, decide_f, hadd_ne', hset_ne', srcC_cells, ap_nil, ap_sl, apC_cells, goNSC_on, goNSC_end, stC_one, stC_agg, fillC_one, fillC_agg, part_t, box_one, box_agg, evb_quo, evb_rem, evb_shl, evb_shr, t0, t1, t2, t7, t8, t9])))
                  refine ⟨by omega, swp d2 (j + 1) j, by omega, rfl, by rw [swp_size]; exact hs2, hJ, ?_⟩
                  ((repeat' apply And.intro) <;> (first | omega | rfl | assumption | (congr 1 <;> omega) | skip))
          · rw [if_neg c3]
            ((try simp -implicitDefEqProofs only [later, laterE, laterD, laterR]); (repeat (first | simp -implicitDefEqProofs only [go_sem, ↓reduceIte, Nat.reduceEqDiff, Nat.reduceAdd, Nat.reduceLeDiff, Nat.reduceLT, Nat.reduceMul, reduceCtorEq, Int.reduceEq, Int.reduceLT, Int.reduceLE, Int.reduceNeg, Int.reduceToNat, Int.reduceMul, Int.reduceAdd, Int.reduceSub, t0, t1, t2, t7, t8] | simp (disch := (first | omega | (simp only [go_sem]; done) | (simp only [lens]; omega))) only [wrap_u8_id, wrap_u32_id, wrap_u64_id, wrap_i64_id, wrap_i32_id, tmod_nn, tdiv_nn, Int.toNat_natCast, bnd_nh, bnd_ln, bnd_lh, is_str, ix_sl, ir_ptr, ia_agg, tsC_cells, mk_ints, evb_sadd, decide_t, decide_f, hadd_ne', hset_ne', srcC_cells, ap_nil, ap_sl, apC_cells, goNSC_on, goNSC_end, stC_one, stC_agg, fillC_one, fillC_agg, part_t, box_one, box_agg, evb_quo, evb_rem, evb_shl, evb_shr, t0, t1, t2, t7, t8])))
            rfl
        · have hsB : (Go.Sort.fixDown ltStr a I dA).size = n := by
            unfold Go.Sort.fixDown; split
            · rw [shiftDown_size]; exact hs1
            · exact hs1
          generalize Go.Sort.fixDown ltStr a I dA = dB at *
          rintro ex ⟨t, ds⟩ h' ⟨rfl, rfl, hd, t0, t1, t2, t7, t8⟩
          simp only at hd t0 t1 t2 t7 t8; subst hd
          ((try simp -implicitDefEqProofs only [later, laterE, laterD, laterR]); (repeat (first | simp -implicitDefEqProofs only [go_sem, ↓reduceIte, Nat.reduceEqDiff, Nat.reduceAdd, Nat.reduceLeDiff, Nat.reduceLT, Nat.reduceMul, reduceCtorEq, Int.reduceEq, Int.reduceLT, Int.reduceLE, Int.reduceNeg, Int.reduceToNat, Int.reduceMul, Int.reduceAdd, Int.reduceSub, t0, t1, t2, t7, t8] | simp (disch := (first | omega | (simp only [go_sem]; done) | (simp only [lens]; omega))) only [wrap_u8_id, wrap_u32_id, wrap_u64_id, wrap_i64_id, wrap_i32_id, tmod_nn, tdiv_nn, Int.toNat_natCast, bnd_nh, bnd_ln, bnd_lh, is_str, ix_sl, ir_ptr, ia_agg, tsC_cells, mk_ints, evb_sadd, decide_t, decide_f, hadd_ne', hset_ne', srcC_cells, ap_nil, ap_sl, apC_cells, goNSC_on, goNSC_end, stC_one, stC_agg, fillC_one, fillC_agg, part_t, box_one, box_agg, evb_quo, evb_rem, evb_shl, evb_shr, t0, t1, t2, t7, t8])))
          refine goC.cut AC.mono (fun ex a' h' => ex = .nm ∧ h' = hadd h b (rowO (Go.Sort.fixUp ltStr e I dB)) ∧ a'.d = [] ∧ a'.t 0 = .sl b 0 1 n ∧ a'.t 1 = .int .i64 a ∧ a'.t 2 = .int .i64 e ∧ a'.t 7 = .int .i64 I ∧ a'.t 8 = .int .i64 (5 - ((s + 1 : Nat) : Int))) ?_ ?_
          · unfold Go.Sort.fixUp
            by_cases c4 : e - I ≥ 2
            · rw [if_pos c4]
              ((try simp -implicitDefEqProofs only [later, laterE, laterD, laterR]); (repeat (first | simp -implicitDefEqProofs only [go_sem, ↓reduceIte, Nat.reduceEqDiff, Nat.reduceAdd, Nat.reduceLeDiff, Nat.reduceLT, Nat.reduceMul, reduceCtorEq, Int.reduceEq, Int.reduceLT, Int.reduceLE, Int.reduceNeg, Int.reduceToNat, Int.reduceMul, Int.reduceAdd, Int.reduceSub, t0, t1, t2, t7, t8] | simp (disch := (first | omega | (simp only [go_sem]; done) | (simp only [lens]; omega))) only [wrap_u8_id, wrap_u32_id, wrap_u64_id, wrap_i64_id, wrap_i32_id, tmod_nn, tdiv_nn, Int.toNat_natCast, bnd_nh, bnd_ln, bnd_lh, is_str, ix_sl, ir_ptr, ia_agg, tsC_cells, mk_ints, evb_sadd, decide_t, decide_f, hadd_ne', hset_ne', srcC_cells, ap_nil, ap_sl, apC_cells, goNSC_on, goNSC_end, stC_one, stC_agg, fillC_one, fillC_agg, part_t, box_one, box_agg, evb_quo, evb_rem, evb_shl, evb_shr, t0, t1, t2, t7, t8])))
              refine E.loopX AC.mono (fun (j : Nat) a' h' => ∃ d2, I + 1 ≤ j ∧ j ≤ e ∧ h' = hadd h b (rowO d2) ∧ d2.size = n ∧ Go.Sort.shiftUp ltStr e j d2 = Go.Sort.shiftUp ltStr e (I + 1) dB ∧ a'.d = [] ∧ a'.t 0 = .sl b 0 1 n ∧ a'.t 1 = .int .i64 a ∧ a'.t 2 = .int .i64 e ∧ a'.t 7 = .int .i64 I ∧ a'.t 8 = .int .i64 (5 - ((s + 1 : Nat) : Int)) ∧ a'.t 10 = .int .i64 j) (fun j => e - j) (I + 1) ?_ ?_
              · refine ⟨dB, Nat.le_refl _, by omega, rfl, hsB, rfl, ?_⟩
                ((try simp -implicitDefEqProofs only [later, laterE, laterD, laterR]); (repeat (first | simp -implicitDefEqProofs only [go_sem, ↓reduceIte, Nat.reduceEqDiff, Nat.reduceAdd, Nat.reduceLeDiff, Nat.reduceLT, Nat.reduceMul, reduceCtorEq, Int.reduceEq, Int.reduceLT, Int.reduceLE, Int.reduceNeg, Int.reduceToNat, Int.reduceMul, Int.reduceAdd, Int.reduceSub, t0, t1, t2, t7, t8] | simp (disch := (first | omega | (simp only [go_sem]; done) | (simp only [lens]; omega))) only [wrap_u8_id, wrap_u32_id, wrap_u64_id, wrap_i64_id, wrap_i32_id, tmod_nn, tdiv_nn, Int.toNat_natCast, bnd_nh, bnd_ln, bnd_lh, is_str, ix_sl, ir_ptr, ia_agg, tsC_cells, mk_ints, evb_sadd, decide_t, decide_f, hadd_ne', hset_ne', srcC_cells, ap_nil, ap_sl, apC_cells, goNSC_on, goNSC_end, stC_one, stC_agg, fillC_one, fillC_agg, part_t, box_one, box_agg, evb_quo, evb_rem, evb_shl, evb_shr, t0, t1, t2, t7, t8])))
                ((repeat' apply And.intro) <;> (first | omega | rfl | assumption | (congr 1 <;> omega) | skip))
              · rintro j ⟨t, ds⟩ h' ⟨d2, hj1, hj2, rfl, hs2, hJ, hd, t0, t1, t2, t7, t8, t10⟩
                simp only at hd t0 t1 t2 t7 t8 t10; subst hd
                rw [Go.Sort.shiftUp] at hJ
                by_cases cj : (j : Int) < e
                · rw [if_pos (show j < e by omega)] at hJ
                  have fit := rowV_len d2
                  have ej : ((j : Int) - 1).toNat = j - 1 := by omega
                  have g0 := rowV_get (d := d2) (i := j) (by omega)
                  have g1 := rowV_get (d := d2) (i := j - 1) (by omega)
                  have w1 := rowV_set (d := d2) (i := j) (x := d2[j - 1]!) (by omega)
                  have w2 := swp_row (d := d2) (i := j) (j := j - 1) (by omega) (by omega)
                  have fit1 := rowV_len (d2.setIfInBounds j d2[j - 1]!)
                  rw [Array.size_setIfInBounds] at fit1
                  ((try simp -implicitDefEqProofs only [later, laterE, laterD, laterR]); (repeat (first | simp -implicitDefEqProofs only [go_sem, ↓reduceIte, Nat.reduceEqDiff, Nat.reduceAdd, Nat.reduceLeDiff, Nat.reduceLT, Nat.reduceMul, reduceCtorEq, Int.reduceEq, Int.reduceLT, Int.reduceLE, Int.reduceNeg, Int.reduceToNat, Int.reduceMul, Int.reduceAdd, Int.reduceSub, t0, t1, t2, t7, t8, t10, ej, rowO, g0, g1] | simp (disch := (first | omega | (simp only [go_sem]; done) | (simp only [lens]; omega))) only [wrap_u8_id, wrap_u32_id, wrap_u64_id, wrap_i64_id, wrap_i32_id, tmod_nn, tdiv_nn, Int.toNat_natCast, bnd_nh, bnd_ln, bnd_lh, is_str, ix_sl, ir_ptr, ia_agg, tsC_cells, mk_ints, evb_sadd, decide_t, decide_f, hadd_ne', hset_ne', srcC_cells, ap_nil, ap_sl, apC_cells, goNSC_on, goNSC_end, stC_one, stC_agg, fillC_one, fillC_agg, part_t, box_one, box_agg, evb_quo, evb_rem, evb_shl, evb_shr, t0, t1, t2, t7, t8, t10, ej, rowO, g0, g1])))
                  refine less_ac _ _ ?_
                  cases hlt : ltStr d2[j]! d2[j - 1]!
                  · rw [hlt, if_pos (by decide)] at hJ
                    subst hJ
                    ((try simp -implicitDefEqProofs only [later, laterE, laterD, laterR]); (repeat (first | simp -implicitDefEqProofs only [go_sem, ↓reduceIte, Nat.reduceEqDiff, Nat.reduceAdd, Nat.reduceLeDiff, Nat.reduceLT, Nat.reduceMul, reduceCtorEq, Int.reduceEq, Int.reduceLT, Int.reduceLE, Int.reduceNeg, Int.reduceToNat, Int.reduceMul, Int.reduceAdd, Int.reduceSub, t0, t1, t2, t7, t8, t10] | simp (disch := (first | omega | (simp only [go_sem]; done) | (simp only [lens]; omega))) only [wrap_u8_id, wrap_u32_id, wrap_u64_id, wrap_i64_id, wrap_i32_id, tmod_nn, tdiv_nn, Int.toNat_natCast, bnd_nh, bnd_ln, bnd_lh, is_str, ix_sl, ir_ptr, ia_agg, tsC_cells, mk_ints, evb_sadd, decide_t, decide_f, hadd_ne', hset_ne', srcC_cells, ap_nil, ap_sl, apC_cells, goNSC_on, goNSC_end, stC_one, stC_agg, fillC_one, fillC_agg, part_t, box_one, box_agg, evb_quo, evb_rem, evb_shl, evb_shr, t0, t1, t2, t7, t8, t10])))
                  · rw [hlt, if_neg (by decide)] at hJ
                    ((try simp -implicitDefEqProofs only [later, laterE, laterD, laterR]); (repeat (first | simp -implicitDefEqProofs only [go_sem, ↓reduceIte, Nat.reduceEqDiff, Nat.reduceAdd, Nat.reduceLeDiff, Nat.reduceLT, Nat.reduceMul, reduceCtorEq, Int.reduceEq, Int.reduceLT, Int.reduceLE, Int.reduceNeg, Int.reduceToNat, Int.reduceMul, Int.reduceAdd, Int.reduceSub, t0, t1, t2, t7, t8, t10, ej, rowO, g0, g1, w1, w2] | simp (disch := (first | omega | (simp only [go_sem]; done) | (simp only [lens]; omega))) only [wrap_u8_id, wrap_u32_id, wrap_u64_id, wrap_i64_id, wrap_i32_id, tmod_nn, tdiv_nn, Int.toNat_natCast, bnd_nh, bnd_ln, bnd_lh, is_str, ix_sl, ir_ptr, ia_agg, tsC_cells, mk_ints, evb_sadd, decide_t, decide_f, hadd_ne', hset_ne', srcC_cells, ap_nil, ap_sl, apC_cells, goNSC_on, goNSC_end, stC_one, stC_agg, fillC_one, fillC_agg, part_t, box_one, box_agg, evb_quo, evb_rem, evb_shl, evb_shr, t0, t1, t2, t7, t8, t10, ej, rowO, g0, g1, w1, w2])))
                    refine ⟨j + 1, ?_⟩
                    ((try simp -implicitDefEqProofs only [later, laterE, laterD, laterR]); (repeat (first | simp -implicitDefEqProofs only [go_sem, ↓reduceIte, Nat.reduceEqDiff, Nat.reduceAdd, Nat.reduceLeDiff, Nat.reduceLT, Nat.reduceMul, reduceCtorEq, Int.reduceEq, Int.reduceLT, Int.reduceLE, Int.reduceNeg, Int.reduceToNat, Int.reduceMul, Int.reduceAdd, Int.reduceSub, t0, t1, t2, t7, t8, t10] | simp (disch := (first | omega | (simp only [go_sem]; done) | (simp only [lens]; omega))) only [wrap_u8_id, wrap_u32_id, wrap_u64_id, wrap_i64_id, wrap_i32_id, tmod_nn, tdiv_nn, Int.toNat_natCast, bnd_nh, bnd_ln, bnd_lh, is_str, ix_sl, ir_ptr, ia_agg, tsC_cells, mk_ints, evb_sadd, decide_t, decide_f, hadd_ne', hset_ne', srcC_cells, ap_nil, ap_sl, apC_cells, goNSC_on, goNSC_end, stC_one, stC_agg, fillC_one, fillC_agg, part_t, box_one, box_agg, evb_quo, evb_rem, evb_shl, evb_shr, t0, t1, t2, t7, t8, t10])))
                    refine ⟨by omega, swp d2 j (j - 1), by omega, by omega, rfl, by rw [swp_size]; exact hs2, hJ, ?_⟩
                    ((repeat' apply And.intro) <;> (first | omega | rfl | assumption | (congr 1 <;> omega) | skip))
                · rw [if_neg (show ¬ j < e by omega)] at hJ
                  subst hJ
                  ((try simp -implicitDefEqProofs only [later, laterE, laterD, laterR]); (repeat (first | simp -implicitDefEqProofs only [go_sem, ↓reduceIte, Nat.reduceEqDiff, Nat.reduceAdd, Nat.reduceLeDiff, Nat.reduceLT, Nat.reduceMul, reduceCtorEq, Int.reduceEq, Int.reduceLT, Int.reduceLE, Int.reduceNeg, Int.reduceToNat, Int.reduceMul, Int.reduceAdd, Int.reduceSub, t0, t1, t2, t7, t8, t10] | simp (disch := (first | omega | (simp only [go_sem]; done) | (simp only [lens]; omega))) only [wrap_u8_id, wrap_u32_id, wrap_u64_id, wrap_i64_id, wrap_i32_id, tmod_nn, tdiv_nn, Int.toNat_natCast, bnd_nh, bnd_ln, bnd_lh, is_str, ix_sl, ir_ptr, ia_agg, tsC_cells, mk_ints, evb_sadd, decide_t, decide_f, hadd_ne', hset_ne', srcC_cells, ap_nil, ap_sl, apC_cells, goNSC_on, goNSC_end, stC_one, stC_agg, fillC_one, fillC_agg, part_t, box_one, box_agg, evb_quo, evb_rem, evb_shl, evb_shr, t0, t1, t2, t7, t8, t10])))
            · rw [if_neg c4]
              ((try simp -implicitDefEqProofs only [later, laterE, laterD, laterR]); (repeat (first | simp -implicitDefEqProofs only [go_sem, ↓reduceIte, Nat.reduceEqDiff, Nat.reduceAdd, Nat.reduceLeDiff, Nat.reduceLT, Nat.reduceMul, reduceCtorEq, Int.reduceEq, Int.reduceLT, Int.reduceLE, Int.reduceNeg, Int.reduceToNat, Int.reduceMul, Int.reduceAdd, Int.reduceSub, t0, t1, t2, t7, t8] | simp (disch := (first | omega | (simp only [go_sem]; done) | (simp only [lens]; omega))) only [wrap_u8_id, wrap_u32_id, wrap_u64_id, wrap_i64_id, wrap_i32_id, tmod_nn, tdiv_nn, Int.toNat_natCast, bnd_nh, bnd_ln, bnd_lh, is_str, ix_sl, ir_ptr, ia_agg, tsC_cells, mk_ints, evb_sadd, decide_t, decide_f, hadd_ne', hset_ne', srcC_cells, ap_nil, ap_sl, apC_cells, goNSC_on, goNSC_end, stC_one, stC_agg, fillC_one, fillC_agg, part_t, box_one, box_agg, evb_quo, evb_rem, evb_shl, evb_shr, t0, t1, t2, t7, t8])))
          · have hsC : (Go.Sort.fixUp ltStr e I dB).size = n := by
              unfold Go.Sort.fixUp; split
              · rw [shiftUp_size _ _ _ _ (Nat.le_refl _)]; exact hsB
              · exact hsB
            rintro ex ⟨t, ds⟩ h' ⟨rfl, rfl, hd, t0, t1, t2, t7, t8⟩
            simp only at hd t0 t1 t2 t7 t8; subst hd
            ((try simp -implicitDefEqProofs only [later, laterE, laterD, laterR]); (repeat (first | simp -implicitDefEqProofs only [go_sem, ↓reduceIte, Nat.reduceEqDiff, Nat.reduceAdd, Nat.reduceLeDiff, Nat.reduceLT, Nat.reduceMul, reduceCtorEq, Int.reduceEq, Int.reduceLT, Int.reduceLE, Int.reduceNeg, Int.reduceToNat, Int.reduceMul, Int.reduceAdd, Int.reduceSub, t0, t1, t2, t7, t8] | simp (disch := (first | omega | (simp only [go_sem]; done) | (simp only [lens]; omega))) only [wrap_u8_id, wrap_u32_id, wrap_u64_id, wrap_i64_id, wrap_i32_id, tmod_nn, tdiv_nn, Int.toNat_natCast, bnd_nh, bnd_ln, bnd_lh, is_str, ix_sl, ir_ptr, ia_agg, tsC_cells, mk_ints, evb_sadd, decide_t, decide_f, hadd_ne', hset_ne', srcC_cells, ap_nil, ap_sl, apC_cells, goNSC_on, goNSC_end, stC_one, stC_agg, fillC_one, fillC_agg, part_t, box_one, box_agg, evb_quo, evb_rem, evb_shl, evb_shr, t0, t1, t2, t7, t8])))
            refine ⟨(s, I), ?_⟩
            ((try simp -implicitDefEqProofs only [later, laterE, laterD, laterR]); (repeat (first | simp -implicitDefEqProofs only [go_sem, ↓reduceIte, Nat.reduceEqDiff, Nat.reduceAdd, Nat.reduceLeDiff, Nat.reduceLT, Nat.reduceMul, reduceCtorEq, Int.reduceEq, Int.reduceLT, Int.reduceLE, Int.reduceNeg, Int.reduceToNat, Int.reduceMul, Int.reduceAdd, Int.reduceSub, t0, t1, t2, t7, t8] | simp (disch := (first | omega | (simp only [go_sem]; done) | (simp only [lens]; omega))) only [wrap_u8_id, wrap_u32_id, wrap_u64_id, wrap_i64_id, wrap_i32_id, tmod_nn, tdiv_nn, Int.toNat_natCast, bnd_nh, bnd_ln, bnd_lh, is_str, ix_sl, ir_ptr, ia_agg, tsC_cells, mk_ints, evb_sadd, decide_t, decide_f, hadd_ne', hset_ne', srcC_cells, ap_nil, ap_sl, apC_cells, goNSC_on, goNSC_end, stC_one, stC_agg, fillC_one, fillC_agg, part_t, box_one, box_agg, evb_quo, evb_rem, evb_shl, evb_shr, t0, t1, t2, t7, t8])))
            refine ⟨by omega, _, by omega, by omega, hIe, rfl, hsC, hI, ?_⟩
            ((repeat' apply And.intro) <;> (first | omega | rfl | assumption | (congr 1 <;> omega) | skip))
end Go.Proofs.Ytijipnkdabdioaa
