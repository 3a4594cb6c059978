/- The journal, walked, 2: the document's frames. -/
import Derived.Test.YtijipnkdabdioaaDoorJ1
import Derived.Test.YtijipnkdabdioaaDoorLRef
set_option linter.unusedSimpArgs false
set_option linter.unusedVariables false
namespace Go.Proofs.YtijipnkdabdioaaDoor
open Mir SumMath
variable {h : H} {Q : V → H → Prop}
theorem rFrame_ac (t : List UInt8) (ht : t.length ≤ 1000000) (hq : Q (.str (frame t)) h) : AC pg (.fn 12) [.str t] h Q := by
  refine AC.fn' (g := g12) rfl (by simp only [List.length_cons, List.length_nil, g12]; decide) ?_; simp only [g12]
  ((try simp -implicitDefEqProofs only [later, laterE, laterD, laterR]); (repeat (first | simp -implicitDefEqProofs only [go_sem, ↓reduceIte, Nat.reduceEqDiff, Nat.reduceAdd, Nat.reduceLeDiff, Nat.reduceLT, Nat.reduceMul, reduceCtorEq, Int.reduceEq, Int.reduceLT, Int.reduceLE, Int.reduceNeg, Int.reduceToNat, Int.reduceMul, Int.reduceAdd, Int.reduceSub] | simp (disch := (first | omega | (simp only [go_sem]; done) | (simp only [lens]; omega))) only [wrap_u8_id, wrap_u32_id, wrap_u64_id, wrap_i64_id, wrap_i32_id, tmod_nn, tdiv_nn, Int.toNat_natCast, bnd_nh, bnd_ln, bnd_lh, is_str, ix_sl, ir_ptr, ia_agg, tsC_cells, mk_ints, evb_sadd, decide_t, decide_f, hadd_ne', hset_ne', srcC_cells, ap_nil, ap_sl, apC_cells, goNSC_on, goNSC_end, stC_one, stC_agg, fillC_one, fillC_agg, part_t, box_one, box_agg, evb_quo, evb_rem, evb_shl, evb_shr, saC_cells, ds_sl])))
  refine rDigits_ac t.length (by omega) ?_
  have hd : (dec t.length).length ≤ 14 + 1 := dec_length_le (by omega)
  ((try simp -implicitDefEqProofs only [later, laterE, laterD, laterR]); (repeat (first | simp -implicitDefEqProofs only [go_sem, ↓reduceIte, Nat.reduceEqDiff, Nat.reduceAdd, Nat.reduceLeDiff, Nat.reduceLT, Nat.reduceMul, reduceCtorEq, Int.reduceEq, Int.reduceLT, Int.reduceLE, Int.reduceNeg, Int.reduceToNat, Int.reduceMul, Int.reduceAdd, Int.reduceSub] | simp (disch := (first | omega | (simp only [go_sem]; done) | (simp only [lens]; omega))) only [wrap_u8_id, wrap_u32_id, wrap_u64_id, wrap_i64_id, wrap_i32_id, tmod_nn, tdiv_nn, Int.toNat_natCast, bnd_nh, bnd_ln, bnd_lh, is_str, ix_sl, ir_ptr, ia_agg, tsC_cells, mk_ints, evb_sadd, decide_t, decide_f, hadd_ne', hset_ne', srcC_cells, ap_nil, ap_sl, apC_cells, goNSC_on, goNSC_end, stC_one, stC_agg, fillC_one, fillC_agg, part_t, box_one, box_agg, evb_quo, evb_rem, evb_shl, evb_shr, saC_cells, ds_sl])))
  refine rSumOf_ac t ht ?_
  ((try simp -implicitDefEqProofs only [later, laterE, laterD, laterR]); (repeat (first | simp -implicitDefEqProofs only [go_sem, ↓reduceIte, Nat.reduceEqDiff, Nat.reduceAdd, Nat.reduceLeDiff, Nat.reduceLT, Nat.reduceMul, reduceCtorEq, Int.reduceEq, Int.reduceLT, Int.reduceLE, Int.reduceNeg, Int.reduceToNat, Int.reduceMul, Int.reduceAdd, Int.reduceSub] | simp (disch := (first | omega | (simp only [go_sem]; done) | (simp only [lens]; omega))) only [wrap_u8_id, wrap_u32_id, wrap_u64_id, wrap_i64_id, wrap_i32_id, tmod_nn, tdiv_nn, Int.toNat_natCast, bnd_nh, bnd_ln, bnd_lh, is_str, ix_sl, ir_ptr, ia_agg, tsC_cells, mk_ints, evb_sadd, decide_t, decide_f, hadd_ne', hset_ne', srcC_cells, ap_nil, ap_sl, apC_cells, goNSC_on, goNSC_end, stC_one, stC_agg, fillC_one, fillC_agg, part_t, box_one, box_agg, evb_quo, evb_rem, evb_shl, evb_shr, saC_cells, ds_sl])))
  refine rHex_ac _ (sumOf_lt t) ?_
  have hh := hexOf_len (sumOf t)
  ((try simp -implicitDefEqProofs only [later, laterE, laterD, laterR]); (repeat (first | simp -implicitDefEqProofs only [go_sem, ↓reduceIte, Nat.reduceEqDiff, Nat.reduceAdd, Nat.reduceLeDiff, Nat.reduceLT, Nat.reduceMul, reduceCtorEq, Int.reduceEq, Int.reduceLT, Int.reduceLE, Int.reduceNeg, Int.reduceToNat, Int.reduceMul, Int.reduceAdd, Int.reduceSub] | simp (disch := (first | omega | (simp only [go_sem]; done) | (simp only [lens]; omega))) only [wrap_u8_id, wrap_u32_id, wrap_u64_id, wrap_i64_id, wrap_i32_id, tmod_nn, tdiv_nn, Int.toNat_natCast, bnd_nh, bnd_ln, bnd_lh, is_str, ix_sl, ir_ptr, ia_agg, tsC_cells, mk_ints, evb_sadd, decide_t, decide_f, hadd_ne', hset_ne', srcC_cells, ap_nil, ap_sl, apC_cells, goNSC_on, goNSC_end, stC_one, stC_agg, fillC_one, fillC_agg, part_t, box_one, box_agg, evb_quo, evb_rem, evb_shl, evb_shr, saC_cells, ds_sl])))
  exact ⟨h, Sub.refl, hq⟩
theorem magic_len : magic.length = 9 := rfl
theorem opened_short {s : List UInt8} (h1 : s.length < 9) (h2 : s = magic.take s.length) : opened s = ([], 2) := by
  unfold opened
  rw [if_neg, if_pos]
  · rw [List.isPrefixOf_iff_prefix, h2]; exact List.take_prefix _ _
  · rw [List.isPrefixOf_iff_prefix]
    intro e
    have := e.length_le
    rw [magic_len] at this; omega
theorem opened_bad {s : List UInt8} {i : Nat} {c m : UInt8} (h1 : s[i]? = some c) (h2 : magic[i]? = some m) (h3 : c ≠ m) : opened s = ([], 3) := by
  unfold opened
  rw [if_neg, if_neg]
  · rw [List.isPrefixOf_iff_prefix]
    rintro ⟨r, e⟩
    have hi := (List.getElem?_eq_some_iff.1 h1).1
    rw [← e, List.getElem?_append_left hi, h1] at h2
    exact h3 (Option.some.inj h2)
  · rw [List.isPrefixOf_iff_prefix]
    rintro ⟨r, e⟩
    have hi := (List.getElem?_eq_some_iff.1 h2).1
    rw [← e, List.getElem?_append_left hi, h2] at h1
    exact h3 (Option.some.inj h1).symm
theorem opened_rest {s : List UInt8} (h : s.take 9 = magic) : opened s = restOf (s.drop 9) := by
  unfold opened
  rw [if_pos]
  rw [List.isPrefixOf_iff_prefix, ← h]; exact List.take_prefix _ _
theorem headOf3 {head tt : List UInt8} (h : ∀ number hex, head = number ++ 32 :: hex → 32 ∉ number → ¬ NumOk number) : headOf head tt = ([], 3) := by
  unfold headOf
  rcases split_byte 32 head with e | ⟨l, r, e, hn⟩
  · rw [cutB_none e]
  · rw [e, cutB_some hn]
    simp only
    unfold bodyOf
    rw [if_neg (h l r e hn)]
theorem headOfN {number hex tt : List UInt8} (h : 32 ∉ number) : headOf (number ++ 32 :: hex) tt = bodyOf number hex tt := by
  unfold headOf; rw [cutB_some h]
theorem isDg_iff {c : UInt8} : isDg c = true ↔ 48 ≤ c.toNat ∧ c.toNat ≤ 57 := by simp [isDg]
theorem numOk_dg {l : List UInt8} (h : NumOk l) : l.all isDg = true := (numOk_good h).2.1
theorem all_take {l : List UInt8} {j i : Nat} {c : UInt8} (h : (l.take j).all isDg = true) (hi : i < j) (hc : l[i]? = some c) : isDg c = true :=
  List.all_eq_true.1 h c (List.mem_of_getElem? (i := i) (by rw [List.getElem?_take_of_lt hi]; exact hc))
theorem first_nd {head number hex : List UInt8} {j : Nat} {c : UInt8} (h1 : (head.take j).all isDg = true) (h2 : head[j]? = some c) (h3 : ¬ isDg c = true) (h4 : head = number ++ 32 :: hex) (h5 : number.all isDg = true) : number.length = j ∧ c = 32 := by
  have e32 : head[number.length]? = some 32 := by rw [h4, List.getElem?_append_right (Nat.le_refl _)]; simp
  rcases Nat.lt_trichotomy number.length j with h | h | h
  · have := all_take h1 h e32; cases this
  · subst h; rw [e32] at h2; exact ⟨rfl, (Option.some.inj h2).symm⟩
  · exfalso
    rw [h4, List.getElem?_append_left h] at h2
    exact h3 (List.all_eq_true.1 h5 c (List.mem_of_getElem? h2))
theorem numOk_len {l : List UInt8} (h : NumOk l) : l.length ≤ 19 := by
  rw [h.1]
  exact dec_length_le (k := 18) (Nat.lt_trans h.2 (by decide))
theorem all_succ {α : Type} {l : List α} {i : Nat} {x : α} (hx : l[i]? = some x) (p : α → Bool) : (l.take (i + 1)).all p = ((l.take i).all p && p x) := by
  rw [List.take_succ_eq_append_getElem (List.getElem?_eq_some_iff.1 hx).1, List.all_append, (List.getElem?_eq_some_iff.1 hx).2]
  simp
theorem isHex_of {c : UInt8} : isHex c = true ↔ (48 ≤ c.toNat ∧ c.toNat ≤ 57) ∨ (97 ≤ c.toNat ∧ c.toNat ≤ 102) := by simp [isHex]
set_option maxHeartbeats 8000000 in
theorem rOpen_ac (s : List UInt8) (hs : s.length ≤ 1000000) (hq : Q (.tup [.str (opened s).1, .int .i64 ((opened s).2 : Nat)]) h) : AC pg (.fn 9) [.str s] h Q := by
  refine AC.fn' (g := g9) rfl (by simp only [List.length_cons, List.length_nil, g9]; decide) ?_; simp only [g9]
  rw [show ([115, 99, 114, 105, 98, 101, 32, 49, 32] : List UInt8) = magic from rfl]
  have hml := magic_len
  generalize hM : magic = M at *
  ((try simp -implicitDefEqProofs only [later, laterE, laterD, laterR]); (repeat (first | simp -implicitDefEqProofs only [go_sem, ↓reduceIte, Nat.reduceEqDiff, Nat.reduceAdd, Nat.reduceLeDiff, Nat.reduceLT, Nat.reduceMul, reduceCtorEq, Int.reduceEq, Int.reduceLT, Int.reduceLE, Int.reduceNeg, Int.reduceToNat, Int.reduceMul, Int.reduceAdd, Int.reduceSub] | simp (disch := (first | omega | (simp only [go_sem]; done) | (simp only [lens]; omega))) only [wrap_u8_id, wrap_u32_id, wrap_u64_id, wrap_i64_id, wrap_i32_id, tmod_nn, tdiv_nn, Int.toNat_natCast, bnd_nh, bnd_ln, bnd_lh, is_str, ix_sl, ir_ptr, ia_agg, tsC_cells, mk_ints, evb_sadd, decide_t, decide_f, hadd_ne', hset_ne', srcC_cells, ap_nil, ap_sl, apC_cells, goNSC_on, goNSC_end, stC_one, stC_agg, fillC_one, fillC_agg, part_t, box_one, box_agg, evb_quo, evb_rem, evb_shl, evb_shr, saC_cells, ds_sl])))
  refine E.loopX AC.mono (fun (i : Nat) a' h' => i ≤ 9 ∧ i ≤ s.length ∧ s.take i = M.take i ∧ h' = h ∧ a'.d = [] ∧ a'.t 0 = .str s ∧ a'.t 4 = .str M ∧ a'.t 5 = .int .i64 i) (fun i => 9 - i) 0 ?_ ?_
  · refine ⟨by omega, by omega, rfl, rfl, rfl, ?_⟩
    ((try simp -implicitDefEqProofs only [later, laterE, laterD, laterR]); (repeat (first | simp -implicitDefEqProofs only [go_sem, ↓reduceIte, Nat.reduceEqDiff, Nat.reduceAdd, Nat.reduceLeDiff, Nat.reduceLT, Nat.reduceMul, reduceCtorEq, Int.reduceEq, Int.reduceLT, Int.reduceLE, Int.reduceNeg, Int.reduceToNat, Int.reduceMul, Int.reduceAdd, Int.reduceSub] | simp (disch := (first | omega | (simp only [go_sem]; done) | (simp only [lens]; omega))) only [wrap_u8_id, wrap_u32_id, wrap_u64_id, wrap_i64_id, wrap_i32_id, tmod_nn, tdiv_nn, Int.toNat_natCast, bnd_nh, bnd_ln, bnd_lh, is_str, ix_sl, ir_ptr, ia_agg, tsC_cells, mk_ints, evb_sadd, decide_t, decide_f, hadd_ne', hset_ne', srcC_cells, ap_nil, ap_sl, apC_cells, goNSC_on, goNSC_end, stC_one, stC_agg, fillC_one, fillC_agg, part_t, box_one, box_agg, evb_quo, evb_rem, evb_shl, evb_shr, saC_cells, ds_sl])))
  · rintro i ⟨t, d⟩ h' ⟨hi, hil, hpre, rfl, hd, t0, t4, t5⟩
    simp only at hd t0 t4 t5; subst hd
    by_cases ci : i < 9
    · obtain ⟨m, hm⟩ : ∃ m, M[i]? = some m := ⟨M[i], List.getElem?_eq_getElem (by omega)⟩
      by_cases cl : i < s.length
      · obtain ⟨c, hc⟩ : ∃ c, s[i]? = some c := ⟨s[i], List.getElem?_eq_getElem cl⟩
        by_cases cm : c = m
        · subst cm
          ((try simp -implicitDefEqProofs only [later, laterE, laterD, laterR]); (repeat (first | simp -implicitDefEqProofs only [go_sem, ↓reduceIte, Nat.reduceEqDiff, Nat.reduceAdd, Nat.reduceLeDiff, Nat.reduceLT, Nat.reduceMul, reduceCtorEq, Int.reduceEq, Int.reduceLT, Int.reduceLE, Int.reduceNeg, Int.reduceToNat, Int.reduceMul, Int.reduceAdd, Int.reduceSub, t0, t4, t5, hm, hc] | simp (disch := (first | omega | (simp only [go_sem]; done) | (simp only [lens]; omega))) only [wrap_u8_id, wrap_u32_id, wrap_u64_id, wrap_i64_id, wrap_i32_id, tmod_nn, tdiv_nn, Int.toNat_natCast, bnd_nh, bnd_ln, bnd_lh, is_str, ix_sl, ir_ptr, ia_agg, tsC_cells, mk_ints, evb_sadd, decide_t, decide_f, hadd_ne', hset_ne', srcC_cells, ap_nil, ap_sl, apC_cells, goNSC_on, goNSC_end, stC_one, stC_agg, fillC_one, fillC_agg, part_t, box_one, box_agg, evb_quo, evb_rem, evb_shl, evb_shr, saC_cells, ds_sl, t0, t4, t5, hm, hc])))
          refine ⟨i + 1, ?_⟩
          ((try simp -implicitDefEqProofs only [later, laterE, laterD, laterR]); (repeat (first | simp -implicitDefEqProofs only [go_sem, ↓reduceIte, Nat.reduceEqDiff, Nat.reduceAdd, Nat.reduceLeDiff, Nat.reduceLT, Nat.reduceMul, reduceCtorEq, Int.reduceEq, Int.reduceLT, Int.reduceLE, Int.reduceNeg, Int.reduceToNat, Int.reduceMul, Int.reduceAdd, Int.reduceSub, t0, t4, t5] | simp (disch := (first | omega | (simp only [go_sem]; done) | (simp only [lens]; omega))) only [wrap_u8_id, wrap_u32_id, wrap_u64_id, wrap_i64_id, wrap_i32_id, tmod_nn, tdiv_nn, Int.toNat_natCast, bnd_nh, bnd_ln, bnd_lh, is_str, ix_sl, ir_ptr, ia_agg, tsC_cells, mk_ints, evb_sadd, decide_t, decide_f, hadd_ne', hset_ne', srcC_cells, ap_nil, ap_sl, apC_cells, goNSC_on, goNSC_end, stC_one, stC_agg, fillC_one, fillC_agg, part_t, box_one, box_agg, evb_quo, evb_rem, evb_shl, evb_shr, saC_cells, ds_sl, t0, t4, t5])))
          refine ⟨by omega, by omega, by omega, ?_, ?_⟩
          · rw [List.take_succ_eq_append_getElem cl, List.take_succ_eq_append_getElem (show i < M.length by omega), hpre]
            rw [(List.getElem?_eq_some_iff.1 hc).2, (List.getElem?_eq_some_iff.1 hm).2]
          · ((repeat' apply And.intro) <;> (first | omega | rfl | assumption | (congr 1 <;> omega) | skip))
        · rw [opened_bad hc (hM ▸ hm) cm] at hq
          have cn : ¬ ((c.toNat : Nat) : Int) = m.toNat := fun e => cm (UInt8.toNat_inj.1 (by omega))
          ((try simp -implicitDefEqProofs only [later, laterE, laterD, laterR]); (repeat (first | simp -implicitDefEqProofs only [go_sem, ↓reduceIte, Nat.reduceEqDiff, Nat.reduceAdd, Nat.reduceLeDiff, Nat.reduceLT, Nat.reduceMul, reduceCtorEq, Int.reduceEq, Int.reduceLT, Int.reduceLE, Int.reduceNeg, Int.reduceToNat, Int.reduceMul, Int.reduceAdd, Int.reduceSub, t0, t4, t5, hm, hc] | simp (disch := (first | omega | (simp only [go_sem]; done) | (simp only [lens]; omega))) only [wrap_u8_id, wrap_u32_id, wrap_u64_id, wrap_i64_id, wrap_i32_id, tmod_nn, tdiv_nn, Int.toNat_natCast, bnd_nh, bnd_ln, bnd_lh, is_str, ix_sl, ir_ptr, ia_agg, tsC_cells, mk_ints, evb_sadd, decide_t, decide_f, hadd_ne', hset_ne', srcC_cells, ap_nil, ap_sl, apC_cells, goNSC_on, goNSC_end, stC_one, stC_agg, fillC_one, fillC_agg, part_t, box_one, box_agg, evb_quo, evb_rem, evb_shl, evb_shr, saC_cells, ds_sl, t0, t4, t5, hm, hc])))
          exact ⟨_, Sub.refl, hq⟩
      · rw [opened_short (by omega) (by rw [hM, show s.length = i from by omega, ← hpre, List.take_of_length_le (by omega)])] at hq
        ((try simp -implicitDefEqProofs only [later, laterE, laterD, laterR]); (repeat (first | simp -implicitDefEqProofs only [go_sem, ↓reduceIte, Nat.reduceEqDiff, Nat.reduceAdd, Nat.reduceLeDiff, Nat.reduceLT, Nat.reduceMul, reduceCtorEq, Int.reduceEq, Int.reduceLT, Int.reduceLE, Int.reduceNeg, Int.reduceToNat, Int.reduceMul, Int.reduceAdd, Int.reduceSub, t0, t4, t5] | simp (disch := (first | omega | (simp only [go_sem]; done) | (simp only [lens]; omega))) only [wrap_u8_id, wrap_u32_id, wrap_u64_id, wrap_i64_id, wrap_i32_id, tmod_nn, tdiv_nn, Int.toNat_natCast, bnd_nh, bnd_ln, bnd_lh, is_str, ix_sl, ir_ptr, ia_agg, tsC_cells, mk_ints, evb_sadd, decide_t, decide_f, hadd_ne', hset_ne', srcC_cells, ap_nil, ap_sl, apC_cells, goNSC_on, goNSC_end, stC_one, stC_agg, fillC_one, fillC_agg, part_t, box_one, box_agg, evb_quo, evb_rem, evb_shl, evb_shr, saC_cells, ds_sl, t0, t4, t5])))
        exact ⟨_, Sub.refl, hq⟩
    · have e9 : i = 9 := by omega
      subst e9
      rw [List.take_of_length_le (show M.length ≤ 9 by omega)] at hpre
      rw [opened_rest (hM ▸ hpre)] at hq
      ((try simp -implicitDefEqProofs only [later, laterE, laterD, laterR]); (repeat (first | simp -implicitDefEqProofs only [go_sem, ↓reduceIte, Nat.reduceEqDiff, Nat.reduceAdd, Nat.reduceLeDiff, Nat.reduceLT, Nat.reduceMul, reduceCtorEq, Int.reduceEq, Int.reduceLT, Int.reduceLE, Int.reduceNeg, Int.reduceToNat, Int.reduceMul, Int.reduceAdd, Int.reduceSub, t0, t4, t5] | simp (disch := (first | omega | (simp only [go_sem]; done) | (simp only [lens]; omega))) only [wrap_u8_id, wrap_u32_id, wrap_u64_id, wrap_i64_id, wrap_i32_id, tmod_nn, tdiv_nn, Int.toNat_natCast, bnd_nh, bnd_ln, bnd_lh, is_str, ix_sl, ir_ptr, ia_agg, tsC_cells, mk_ints, evb_sadd, decide_t, decide_f, hadd_ne', hset_ne', srcC_cells, ap_nil, ap_sl, apC_cells, goNSC_on, goNSC_end, stC_one, stC_agg, fillC_one, fillC_agg, part_t, box_one, box_agg, evb_quo, evb_rem, evb_shl, evb_shr, saC_cells, ds_sl, t0, t4, t5])))
      have hget : ∀ i, s[9 + i]? = (s.drop 9)[i]? := fun i => by rw [List.getElem?_drop]
      have hrl : (s.drop 9).length = s.length - 9 := List.length_drop
      generalize hrest : s.drop 9 = rest at *
      rcases split_byte 10 rest with hn | ⟨head, tt, hst, hn⟩
      · -- no line ends
        unfold restOf at hq
        rw [cutB_none hn] at hq
        refine E.loopX AC.mono (fun (k : Nat) a' h'' => k ≤ rest.length ∧ h'' = h' ∧ a'.d = [] ∧ a'.t 0 = .str s ∧ a'.t 6 = .int .i64 (9 + k : Nat)) (fun k => rest.length - k) 0 ?_ ?_
        · refine ⟨by omega, rfl, rfl, ?_⟩
          ((try simp -implicitDefEqProofs only [later, laterE, laterD, laterR]); (repeat (first | simp -implicitDefEqProofs only [go_sem, ↓reduceIte, Nat.reduceEqDiff, Nat.reduceAdd, Nat.reduceLeDiff, Nat.reduceLT, Nat.reduceMul, reduceCtorEq, Int.reduceEq, Int.reduceLT, Int.reduceLE, Int.reduceNeg, Int.reduceToNat, Int.reduceMul, Int.reduceAdd, Int.reduceSub, t0] | simp (disch := (first | omega | (simp only [go_sem]; done) | (simp only [lens]; omega))) only [wrap_u8_id, wrap_u32_id, wrap_u64_id, wrap_i64_id, wrap_i32_id, tmod_nn, tdiv_nn, Int.toNat_natCast, bnd_nh, bnd_ln, bnd_lh, is_str, ix_sl, ir_ptr, ia_agg, tsC_cells, mk_ints, evb_sadd, decide_t, decide_f, hadd_ne', hset_ne', srcC_cells, ap_nil, ap_sl, apC_cells, goNSC_on, goNSC_end, stC_one, stC_agg, fillC_one, fillC_agg, part_t, box_one, box_agg, evb_quo, evb_rem, evb_shl, evb_shr, saC_cells, ds_sl, t0])))
        · rintro k ⟨t, d⟩ h'' ⟨hk, rfl, hd, t0, t6⟩
          simp only at hd t0 t6; subst hd
          by_cases ck : k < rest.length
          · obtain ⟨c, hc⟩ : ∃ c, rest[k]? = some c := ⟨rest[k], List.getElem?_eq_getElem ck⟩
            have hc' := (hget k).trans hc
            have cn : ¬ ((c.toNat : Nat) : Int) = 10 := fun e => hn (by
              have : c = 10 := UInt8.toNat_inj.1 (by show c.toNat = 10; omega)
              rw [← this]; exact List.mem_of_getElem? hc)
            have ek : (((9 + k : Nat) : Int)).toNat = 9 + k := by omega
            ((try simp -implicitDefEqProofs only [later, laterE, laterD, laterR]); (repeat (first | simp -implicitDefEqProofs only [go_sem, ↓reduceIte, Nat.reduceEqDiff, Nat.reduceAdd, Nat.reduceLeDiff, Nat.reduceLT, Nat.reduceMul, reduceCtorEq, Int.reduceEq, Int.reduceLT, Int.reduceLE, Int.reduceNeg, Int.reduceToNat, Int.reduceMul, Int.reduceAdd, Int.reduceSub, t0, t6, ek, hc', cn] | simp (disch := (first | omega | (simp only [go_sem]; done) | (simp only [lens]; omega))) only [wrap_u8_id, wrap_u32_id, wrap_u64_id, wrap_i64_id, wrap_i32_id, tmod_nn, tdiv_nn, Int.toNat_natCast, bnd_nh, bnd_ln, bnd_lh, is_str, ix_sl, ir_ptr, ia_agg, tsC_cells, mk_ints, evb_sadd, decide_t, decide_f, hadd_ne', hset_ne', srcC_cells, ap_nil, ap_sl, apC_cells, goNSC_on, goNSC_end, stC_one, stC_agg, fillC_one, fillC_agg, part_t, box_one, box_agg, evb_quo, evb_rem, evb_shl, evb_shr, saC_cells, ds_sl, t0, t6, ek, hc', cn])))
            refine ⟨k + 1, ?_⟩
            ((try simp -implicitDefEqProofs only [later, laterE, laterD, laterR]); (repeat (first | simp -implicitDefEqProofs only [go_sem, ↓reduceIte, Nat.reduceEqDiff, Nat.reduceAdd, Nat.reduceLeDiff, Nat.reduceLT, Nat.reduceMul, reduceCtorEq, Int.reduceEq, Int.reduceLT, Int.reduceLE, Int.reduceNeg, Int.reduceToNat, Int.reduceMul, Int.reduceAdd, Int.reduceSub, t0, t6] | simp (disch := (first | omega | (simp only [go_sem]; done) | (simp only [lens]; omega))) only [wrap_u8_id, wrap_u32_id, wrap_u64_id, wrap_i64_id, wrap_i32_id, tmod_nn, tdiv_nn, Int.toNat_natCast, bnd_nh, bnd_ln, bnd_lh, is_str, ix_sl, ir_ptr, ia_agg, tsC_cells, mk_ints, evb_sadd, decide_t, decide_f, hadd_ne', hset_ne', srcC_cells, ap_nil, ap_sl, apC_cells, goNSC_on, goNSC_end, stC_one, stC_agg, fillC_one, fillC_agg, part_t, box_one, box_agg, evb_quo, evb_rem, evb_shl, evb_shr, saC_cells, ds_sl, t0, t6])))
            ((repeat' apply And.intro) <;> (first | omega | rfl | assumption | (congr 1 <;> omega) | skip))
          · ((try simp -implicitDefEqProofs only [later, laterE, laterD, laterR]); (repeat (first | simp -implicitDefEqProofs only [go_sem, ↓reduceIte, Nat.reduceEqDiff, Nat.reduceAdd, Nat.reduceLeDiff, Nat.reduceLT, Nat.reduceMul, reduceCtorEq, Int.reduceEq, Int.reduceLT, Int.reduceLE, Int.reduceNeg, Int.reduceToNat, Int.reduceMul, Int.reduceAdd, Int.reduceSub, t0, t6] | simp (disch := (first | omega | (simp only [go_sem]; done) | (simp only [lens]; omega))) only [wrap_u8_id, wrap_u32_id, wrap_u64_id, wrap_i64_id, wrap_i32_id, tmod_nn, tdiv_nn, Int.toNat_natCast, bnd_nh, bnd_ln, bnd_lh, is_str, ix_sl, ir_ptr, ia_agg, tsC_cells, mk_ints, evb_sadd, decide_t, decide_f, hadd_ne', hset_ne', srcC_cells, ap_nil, ap_sl, apC_cells, goNSC_on, goNSC_end, stC_one, stC_agg, fillC_one, fillC_agg, part_t, box_one, box_agg, evb_quo, evb_rem, evb_shl, evb_shr, saC_cells, ds_sl, t0, t6])))
            exact ⟨_, Sub.refl, hq⟩
      · -- a line ends
        unfold restOf at hq
        rw [hst, cutB_some hn] at hq
        simp only at hq
        have hlen : rest.length = head.length + (tt.length + 1) := by rw [hst]; simp
        refine E.loopX AC.mono (fun (k : Nat) a' h'' => k ≤ head.length ∧ h'' = h' ∧ a'.d = [] ∧ a'.t 0 = .str s ∧ a'.t 6 = .int .i64 (9 + k : Nat)) (fun k => head.length - k) 0 ?_ ?_
        · refine ⟨by omega, rfl, rfl, ?_⟩
          ((try simp -implicitDefEqProofs only [later, laterE, laterD, laterR]); (repeat (first | simp -implicitDefEqProofs only [go_sem, ↓reduceIte, Nat.reduceEqDiff, Nat.reduceAdd, Nat.reduceLeDiff, Nat.reduceLT, Nat.reduceMul, reduceCtorEq, Int.reduceEq, Int.reduceLT, Int.reduceLE, Int.reduceNeg, Int.reduceToNat, Int.reduceMul, Int.reduceAdd, Int.reduceSub, t0] | simp (disch := (first | omega | (simp only [go_sem]; done) | (simp only [lens]; omega))) only [wrap_u8_id, wrap_u32_id, wrap_u64_id, wrap_i64_id, wrap_i32_id, tmod_nn, tdiv_nn, Int.toNat_natCast, bnd_nh, bnd_ln, bnd_lh, is_str, ix_sl, ir_ptr, ia_agg, tsC_cells, mk_ints, evb_sadd, decide_t, decide_f, hadd_ne', hset_ne', srcC_cells, ap_nil, ap_sl, apC_cells, goNSC_on, goNSC_end, stC_one, stC_agg, fillC_one, fillC_agg, part_t, box_one, box_agg, evb_quo, evb_rem, evb_shl, evb_shr, saC_cells, ds_sl, t0])))
        · rintro k ⟨t, d⟩ h'' ⟨hk, rfl, hd, t0, t6⟩
          simp only at hd t0 t6; subst hd
          have ek : (((9 + k : Nat) : Int)).toNat = 9 + k := by omega
          by_cases ck : k < head.length
          · obtain ⟨c, hc⟩ : ∃ c, head[k]? = some c := ⟨head[k], List.getElem?_eq_getElem ck⟩
            have hc' : s[9 + k]? = some c := by rw [hget, hst, List.getElem?_append_left ck, hc]
            have cn : ¬ ((c.toNat : Nat) : Int) = 10 := fun e => hn (by
              have : c = 10 := UInt8.toNat_inj.1 (by show c.toNat = 10; omega)
              rw [← this]; exact List.mem_of_getElem? hc)
            ((try simp -implicitDefEqProofs only [later, laterE, laterD, laterR]); (repeat (first | simp -implicitDefEqProofs only [go_sem, ↓reduceIte, Nat.reduceEqDiff, Nat.reduceAdd, Nat.reduceLeDiff, Nat.reduceLT, Nat.reduceMul, reduceCtorEq, Int.reduceEq, Int.reduceLT, Int.reduceLE, Int.reduceNeg, Int.reduceToNat, Int.reduceMul, Int.reduceAdd, Int.reduceSub, t0, t6, ek, hc', cn] | simp (disch := (first | omega | (simp only [go_sem]; done) | (simp only [lens]; omega))) only [wrap_u8_id, wrap_u32_id, wrap_u64_id, wrap_i64_id, wrap_i32_id, tmod_nn, tdiv_nn, Int.toNat_natCast, bnd_nh, bnd_ln, bnd_lh, is_str, ix_sl, ir_ptr, ia_agg, tsC_cells, mk_ints, evb_sadd, decide_t, decide_f, hadd_ne', hset_ne', srcC_cells, ap_nil, ap_sl, apC_cells, goNSC_on, goNSC_end, stC_one, stC_agg, fillC_one, fillC_agg, part_t, box_one, box_agg, evb_quo, evb_rem, evb_shl, evb_shr, saC_cells, ds_sl, t0, t6, ek, hc', cn])))
            refine ⟨k + 1, ?_⟩
            ((try simp -implicitDefEqProofs only [later, laterE, laterD, laterR]); (repeat (first | simp -implicitDefEqProofs only [go_sem, ↓reduceIte, Nat.reduceEqDiff, Nat.reduceAdd, Nat.reduceLeDiff, Nat.reduceLT, Nat.reduceMul, reduceCtorEq, Int.reduceEq, Int.reduceLT, Int.reduceLE, Int.reduceNeg, Int.reduceToNat, Int.reduceMul, Int.reduceAdd, Int.reduceSub, t0, t6] | simp (disch := (first | omega | (simp only [go_sem]; done) | (simp only [lens]; omega))) only [wrap_u8_id, wrap_u32_id, wrap_u64_id, wrap_i64_id, wrap_i32_id, tmod_nn, tdiv_nn, Int.toNat_natCast, bnd_nh, bnd_ln, bnd_lh, is_str, ix_sl, ir_ptr, ia_agg, tsC_cells, mk_ints, evb_sadd, decide_t, decide_f, hadd_ne', hset_ne', srcC_cells, ap_nil, ap_sl, apC_cells, goNSC_on, goNSC_end, stC_one, stC_agg, fillC_one, fillC_agg, part_t, box_one, box_agg, evb_quo, evb_rem, evb_shl, evb_shr, saC_cells, ds_sl, t0, t6])))
            ((repeat' apply And.intro) <;> (first | omega | rfl | assumption | (congr 1 <;> omega) | skip))
          · have ek2 : k = head.length := by omega
            subst ek2
            have hc' : s[9 + head.length]? = some 10 := by rw [hget, hst, List.getElem?_append_right (Nat.le_refl _)]; simp
            have e10 : ((((10 : UInt8).toNat : Nat)) : Int) = 10 := rfl
            ((try simp -implicitDefEqProofs only [later, laterE, laterD, laterR]); (repeat (first | simp -implicitDefEqProofs only [go_sem, ↓reduceIte, Nat.reduceEqDiff, Nat.reduceAdd, Nat.reduceLeDiff, Nat.reduceLT, Nat.reduceMul, reduceCtorEq, Int.reduceEq, Int.reduceLT, Int.reduceLE, Int.reduceNeg, Int.reduceToNat, Int.reduceMul, Int.reduceAdd, Int.reduceSub, t0, t6, ek, hc', e10] | simp (disch := (first | omega | (simp only [go_sem]; done) | (simp only [lens]; omega))) only [wrap_u8_id, wrap_u32_id, wrap_u64_id, wrap_i64_id, wrap_i32_id, tmod_nn, tdiv_nn, Int.toNat_natCast, bnd_nh, bnd_ln, bnd_lh, is_str, ix_sl, ir_ptr, ia_agg, tsC_cells, mk_ints, evb_sadd, decide_t, decide_f, hadd_ne', hset_ne', srcC_cells, ap_nil, ap_sl, apC_cells, goNSC_on, goNSC_end, stC_one, stC_agg, fillC_one, fillC_agg, part_t, box_one, box_agg, evb_quo, evb_rem, evb_shl, evb_shr, saC_cells, ds_sl, t0, t6, ek, hc', e10])))
            have hsM : s = M ++ (head ++ 10 :: tt) := by rw [← hst, ← hpre, ← hrest]; exact (List.take_append_drop 9 s).symm
            have hsl : s.length = 9 + (head.length + (tt.length + 1)) := by rw [hsM]; simp [hml]
            have fS1 : ∀ j, j ≤ head.length → List.drop 9 (List.take (9 + j) s) = head.take j := fun j hj => by
              rw [hsM, List.drop_take, show 9 + j - 9 = j from by omega, ← hml, List.drop_left, List.take_append_of_le_length hj]
            have fS2 : List.drop (9 + head.length + 1) s = tt := by
              rw [hsM, show 9 + head.length + 1 = (M ++ (head ++ [10])).length from by simp [hml]; omega, show M ++ (head ++ 10 :: tt) = (M ++ (head ++ [10])) ++ tt from by simp]
              exact List.drop_left
            have fS3 : ∀ j, List.drop (9 + j + 1) (List.take (9 + head.length) s) = head.drop (j + 1) := fun j => by
              rw [hsM, show M ++ (head ++ 10 :: tt) = (M ++ head) ++ 10 :: tt from by simp, show 9 + head.length = (M ++ head).length from by simp [hml], List.take_left', show 9 + j + 1 = M.length + (j + 1) from by omega, List.drop_append]
              · simp
              · rfl
            refine E.loopX AC.mono (fun (j : Nat) a' h3 => ∃ u : Nat, j ≤ head.length ∧ j ≤ 19 ∧ (head.take j).all isDg = true ∧ u = val (head.take j) ∧ h3 = h'' ∧ a'.d = [] ∧ a'.t 0 = .str s ∧ a'.t 6 = .int .i64 (9 + head.length : Nat) ∧ a'.t 7 = .int .i64 (9 + j : Nat) ∧ a'.t 8 = .int .u64 (u : Nat)) (fun j => 19 - j) 0 ?_ ?_
            · refine ⟨0, by omega, by omega, rfl, rfl, rfl, rfl, ?_⟩
              ((try simp -implicitDefEqProofs only [later, laterE, laterD, laterR]); (repeat (first | simp -implicitDefEqProofs only [go_sem, ↓reduceIte, Nat.reduceEqDiff, Nat.reduceAdd, Nat.reduceLeDiff, Nat.reduceLT, Nat.reduceMul, reduceCtorEq, Int.reduceEq, Int.reduceLT, Int.reduceLE, Int.reduceNeg, Int.reduceToNat, Int.reduceMul, Int.reduceAdd, Int.reduceSub, t0, t6] | simp (disch := (first | omega | (simp only [go_sem]; done) | (simp only [lens]; omega))) only [wrap_u8_id, wrap_u32_id, wrap_u64_id, wrap_i64_id, wrap_i32_id, tmod_nn, tdiv_nn, Int.toNat_natCast, bnd_nh, bnd_ln, bnd_lh, is_str, ix_sl, ir_ptr, ia_agg, tsC_cells, mk_ints, evb_sadd, decide_t, decide_f, hadd_ne', hset_ne', srcC_cells, ap_nil, ap_sl, apC_cells, goNSC_on, goNSC_end, stC_one, stC_agg, fillC_one, fillC_agg, part_t, box_one, box_agg, evb_quo, evb_rem, evb_shl, evb_shr, saC_cells, ds_sl, t0, t6])))
            · rintro j ⟨t, d⟩ h3 ⟨u, hj, hj19, hall, hu, rfl, hd, t0, t6, t7, t8⟩
              simp only at hd t0 t6 t7 t8; subst hd
              have ej : (((9 + j : Nat) : Int)).toNat = 9 + j := by omega
              have hul := val_lt _ hall
              rw [← hu, List.length_take] at hul
              by_cases cj : j < head.length
              · obtain ⟨c, hc⟩ : ∃ c, head[j]? = some c := ⟨head[j], List.getElem?_eq_getElem cj⟩
                have hc' : s[9 + j]? = some c := by rw [hget, hst, List.getElem?_append_left cj, hc]
                have hcl := c.toNat_lt
                by_cases cd : isDg c = true
                · have cd' := isDg_iff.1 cd
                  by_cases c19 : j < 19
                  · have hu18 : u < 1000000000000000000 := Nat.lt_of_lt_of_le hul (Nat.pow_le_pow_right (n := 10) (j := 18) (by decide) (by omega))
                    have hv := val_step hc
                    rw [← hu] at hv
                    have hall' : (head.take (j + 1)).all isDg = true := by
                      rw [List.take_succ_eq_append_getElem cj, List.all_append, hall, (List.getElem?_eq_some_iff.1 hc).2]
                      simp [cd]
                    ((try simp -implicitDefEqProofs only [later, laterE, laterD, laterR]); (repeat (first | simp -implicitDefEqProofs only [go_sem, ↓reduceIte, Nat.reduceEqDiff, Nat.reduceAdd, Nat.reduceLeDiff, Nat.reduceLT, Nat.reduceMul, reduceCtorEq, Int.reduceEq, Int.reduceLT, Int.reduceLE, Int.reduceNeg, Int.reduceToNat, Int.reduceMul, Int.reduceAdd, Int.reduceSub, t0, t6, t7, t8, ej, hc'] | simp (disch := (first | omega | (simp only [go_sem]; done) | (simp only [lens]; omega))) only [wrap_u8_id, wrap_u32_id, wrap_u64_id, wrap_i64_id, wrap_i32_id, tmod_nn, tdiv_nn, Int.toNat_natCast, bnd_nh, bnd_ln, bnd_lh, is_str, ix_sl, ir_ptr, ia_agg, tsC_cells, mk_ints, evb_sadd, decide_t, decide_f, hadd_ne', hset_ne', srcC_cells, ap_nil, ap_sl, apC_cells, goNSC_on, goNSC_end, stC_one, stC_agg, fillC_one, fillC_agg, part_t, box_one, box_agg, evb_quo, evb_rem, evb_shl, evb_shr, saC_cells, ds_sl, t0, t6, t7, t8, ej, hc'])))
                    refine ⟨j + 1, ?_⟩
                    ((try simp -implicitDefEqProofs only [later, laterE, laterD, laterR]); (repeat (first | simp -implicitDefEqProofs only [go_sem, ↓reduceIte, Nat.reduceEqDiff, Nat.reduceAdd, Nat.reduceLeDiff, Nat.reduceLT, Nat.reduceMul, reduceCtorEq, Int.reduceEq, Int.reduceLT, Int.reduceLE, Int.reduceNeg, Int.reduceToNat, Int.reduceMul, Int.reduceAdd, Int.reduceSub, t0, t6, t7, t8] | simp (disch := (first | omega | (simp only [go_sem]; done) | (simp only [lens]; omega))) only [wrap_u8_id, wrap_u32_id, wrap_u64_id, wrap_i64_id, wrap_i32_id, tmod_nn, tdiv_nn, Int.toNat_natCast, bnd_nh, bnd_ln, bnd_lh, is_str, ix_sl, ir_ptr, ia_agg, tsC_cells, mk_ints, evb_sadd, decide_t, decide_f, hadd_ne', hset_ne', srcC_cells, ap_nil, ap_sl, apC_cells, goNSC_on, goNSC_end, stC_one, stC_agg, fillC_one, fillC_agg, part_t, box_one, box_agg, evb_quo, evb_rem, evb_shl, evb_shr, saC_cells, ds_sl, t0, t6, t7, t8])))
                    refine ⟨by omega, u * 10 + (c.toNat - 48), by omega, by omega, hall', hv.symm, ?_⟩
                    ((repeat' apply And.intro) <;> (first | omega | rfl | assumption | (congr 1 <;> omega) | skip))
                  · -- too many digits
                    have ej19 : j = 19 := by omega
                    subst ej19
                    rw [headOf3 fun number hex e hn ok => ?_] at hq
                    · ((try simp -implicitDefEqProofs only [later, laterE, laterD, laterR]); (repeat (first | simp -implicitDefEqProofs only [go_sem, ↓reduceIte, Nat.reduceEqDiff, Nat.reduceAdd, Nat.reduceLeDiff, Nat.reduceLT, Nat.reduceMul, reduceCtorEq, Int.reduceEq, Int.reduceLT, Int.reduceLE, Int.reduceNeg, Int.reduceToNat, Int.reduceMul, Int.reduceAdd, Int.reduceSub, t0, t6, t7, t8, ej, hc'] | simp (disch := (first | omega | (simp only [go_sem]; done) | (simp only [lens]; omega))) only [wrap_u8_id, wrap_u32_id, wrap_u64_id, wrap_i64_id, wrap_i32_id, tmod_nn, tdiv_nn, Int.toNat_natCast, bnd_nh, bnd_ln, bnd_lh, is_str, ix_sl, ir_ptr, ia_agg, tsC_cells, mk_ints, evb_sadd, decide_t, decide_f, hadd_ne', hset_ne', srcC_cells, ap_nil, ap_sl, apC_cells, goNSC_on, goNSC_end, stC_one, stC_agg, fillC_one, fillC_agg, part_t, box_one, box_agg, evb_quo, evb_rem, evb_shl, evb_shr, saC_cells, ds_sl, t0, t6, t7, t8, ej, hc'])))
                      exact ⟨_, Sub.refl, hq⟩
                    · have h19 := numOk_len ok
                      have e32 : head[number.length]? = some 32 := by rw [e, List.getElem?_append_right (Nat.le_refl _)]; simp
                      rcases Nat.lt_or_ge number.length 19 with h | h
                      · have := all_take hall h e32; cases this
                      · rw [show number.length = 19 from by omega, hc] at e32
                        cases e32; cases cd
                · -- another sign than a digit
                  have cd' : ¬ (48 ≤ c.toNat ∧ c.toNat ≤ 57) := fun e => cd (isDg_iff.2 e)
                  by_cases good : c = 32 ∧ 0 < j ∧ u < 9223372036854775808 ∧ dec u = head.take j
                  · obtain ⟨g1, g2, g3, g4⟩ := good
                    subst g1
                    have e32 : (((32 : UInt8).toNat : Nat) : Int) = 32 := rfl
                    obtain ⟨hex, hhex⟩ : ∃ hex, hex = head.drop (j + 1) := ⟨_, rfl⟩
                    have hsplit : head = head.take j ++ 32 :: hex := by
                      rw [hhex]
                      have := List.take_append_drop j head
                      rw [List.drop_eq_getElem_cons cj, (List.getElem?_eq_some_iff.1 hc).2] at this
                      exact this.symm
                    have hhl : head.length = j + 1 + hex.length := by
                      rw [hhex, List.length_drop]; omega
                    have h32 : 32 ∉ head.take j := fun hm => by have := List.all_eq_true.1 hall _ hm; cases this
                    rw [hsplit, headOfN h32, ← g4] at hq
                    unfold bodyOf at hq
                    rw [if_pos (dec_numOk g3), val_dec] at hq
                    ((try simp -implicitDefEqProofs only [later, laterE, laterD, laterR]); (repeat (first | simp -implicitDefEqProofs only [go_sem, ↓reduceIte, Nat.reduceEqDiff, Nat.reduceAdd, Nat.reduceLeDiff, Nat.reduceLT, Nat.reduceMul, reduceCtorEq, Int.reduceEq, Int.reduceLT, Int.reduceLE, Int.reduceNeg, Int.reduceToNat, Int.reduceMul, Int.reduceAdd, Int.reduceSub, t0, t6, t7, t8, ej, hc', e32, fS1 j hj] | simp (disch := (first | omega | (simp only [go_sem]; done) | (simp only [lens]; omega))) only [wrap_u8_id, wrap_u32_id, wrap_u64_id, wrap_i64_id, wrap_i32_id, tmod_nn, tdiv_nn, Int.toNat_natCast, bnd_nh, bnd_ln, bnd_lh, is_str, ix_sl, ir_ptr, ia_agg, tsC_cells, mk_ints, evb_sadd, decide_t, decide_f, hadd_ne', hset_ne', srcC_cells, ap_nil, ap_sl, apC_cells, goNSC_on, goNSC_end, stC_one, stC_agg, fillC_one, fillC_agg, part_t, box_one, box_agg, evb_quo, evb_rem, evb_shl, evb_shr, saC_cells, ds_sl, t0, t6, t7, t8, ej, hc', e32, fS1 j hj])))
                    refine rDigits_ac u (by omega) ?_
                    have ef : ((9 + head.length : Nat) : Int) + 1 = ((9 + head.length + 1 : Nat) : Int) := by omega
                    have ef2 : ((9 + head.length : Nat) : Int).toNat = 9 + head.length := by omega
                    have ef3 : (((9 + head.length : Nat) : Int) + 1).toNat = 9 + head.length + 1 := by omega
                    have ef4 : (((9 + j : Nat) : Int) + 1).toNat = 9 + j + 1 := by omega
                    have es : List.take s.length s = s := List.take_length
                    by_cases c1 : tt.length < u
                    · rw [if_pos c1] at hq
                      ((try simp -implicitDefEqProofs only [later, laterE, laterD, laterR]); (repeat (first | simp -implicitDefEqProofs only [go_sem, ↓reduceIte, Nat.reduceEqDiff, Nat.reduceAdd, Nat.reduceLeDiff, Nat.reduceLT, Nat.reduceMul, reduceCtorEq, Int.reduceEq, Int.reduceLT, Int.reduceLE, Int.reduceNeg, Int.reduceToNat, Int.reduceMul, Int.reduceAdd, Int.reduceSub, t0, t6, t7, t8, ej, hc', e32, fS1 j hj, g4, ef2, ef3, es, fS2] | simp (disch := (first | omega | (simp only [go_sem]; done) | (simp only [lens]; omega))) only [wrap_u8_id, wrap_u32_id, wrap_u64_id, wrap_i64_id, wrap_i32_id, tmod_nn, tdiv_nn, Int.toNat_natCast, bnd_nh, bnd_ln, bnd_lh, is_str, ix_sl, ir_ptr, ia_agg, tsC_cells, mk_ints, evb_sadd, decide_t, decide_f, hadd_ne', hset_ne', srcC_cells, ap_nil, ap_sl, apC_cells, goNSC_on, goNSC_end, stC_one, stC_agg, fillC_one, fillC_agg, part_t, box_one, box_agg, evb_quo, evb_rem, evb_shl, evb_shr, saC_cells, ds_sl, t0, t6, t7, t8, ej, hc', e32, fS1 j hj, g4, ef2, ef3, es, fS2])))
                      exact ⟨_, Sub.refl, hq⟩
                    · rw [if_neg c1] at hq
                      by_cases c2 : u < tt.length
                      · rw [if_pos c2] at hq
                        ((try simp -implicitDefEqProofs only [later, laterE, laterD, laterR]); (repeat (first | simp -implicitDefEqProofs only [go_sem, ↓reduceIte, Nat.reduceEqDiff, Nat.reduceAdd, Nat.reduceLeDiff, Nat.reduceLT, Nat.reduceMul, reduceCtorEq, Int.reduceEq, Int.reduceLT, Int.reduceLE, Int.reduceNeg, Int.reduceToNat, Int.reduceMul, Int.reduceAdd, Int.reduceSub, t0, t6, t7, t8, ej, hc', e32, fS1 j hj, g4, ef2, ef3, es, fS2] | simp (disch := (first | omega | (simp only [go_sem]; done) | (simp only [lens]; omega))) only [wrap_u8_id, wrap_u32_id, wrap_u64_id, wrap_i64_id, wrap_i32_id, tmod_nn, tdiv_nn, Int.toNat_natCast, bnd_nh, bnd_ln, bnd_lh, is_str, ix_sl, ir_ptr, ia_agg, tsC_cells, mk_ints, evb_sadd, decide_t, decide_f, hadd_ne', hset_ne', srcC_cells, ap_nil, ap_sl, apC_cells, goNSC_on, goNSC_end, stC_one, stC_agg, fillC_one, fillC_agg, part_t, box_one, box_agg, evb_quo, evb_rem, evb_shl, evb_shr, saC_cells, ds_sl, t0, t6, t7, t8, ej, hc', e32, fS1 j hj, g4, ef2, ef3, es, fS2])))
                        exact ⟨_, Sub.refl, hq⟩
                      · rw [if_neg c2] at hq
                        have f3 := fS3 j
                        rw [← hhex] at f3
                        ((try simp -implicitDefEqProofs only [later, laterE, laterD, laterR]); (repeat (first | simp -implicitDefEqProofs only [go_sem, ↓reduceIte, Nat.reduceEqDiff, Nat.reduceAdd, Nat.reduceLeDiff, Nat.reduceLT, Nat.reduceMul, reduceCtorEq, Int.reduceEq, Int.reduceLT, Int.reduceLE, Int.reduceNeg, Int.reduceToNat, Int.reduceMul, Int.reduceAdd, Int.reduceSub, t0, t6, t7, t8, ej, hc', e32, fS1 j hj, g4, ef2, ef3, ef4, es, fS2, f3] | simp (disch := (first | omega | (simp only [go_sem]; done) | (simp only [lens]; omega))) only [wrap_u8_id, wrap_u32_id, wrap_u64_id, wrap_i64_id, wrap_i32_id, tmod_nn, tdiv_nn, Int.toNat_natCast, bnd_nh, bnd_ln, bnd_lh, is_str, ix_sl, ir_ptr, ia_agg, tsC_cells, mk_ints, evb_sadd, decide_t, decide_f, hadd_ne', hset_ne', srcC_cells, ap_nil, ap_sl, apC_cells, goNSC_on, goNSC_end, stC_one, stC_agg, fillC_one, fillC_agg, part_t, box_one, box_agg, evb_quo, evb_rem, evb_shl, evb_shr, saC_cells, ds_sl, t0, t6, t7, t8, ej, hc', e32, fS1 j hj, g4, ef2, ef3, ef4, es, fS2, f3])))
                        refine E.loopX AC.mono (fun (k : Nat) a' h4 => k ≤ hex.length ∧ h4 = h3 ∧ a'.d = [] ∧ a'.t 10 = .str tt ∧ a'.t 11 = .str hex ∧ a'.t 12 = .bool (decide (hex.length = 8) && (hex.take k).all isHex) ∧ a'.t 13 = .int .i64 k) (fun k => hex.length - k) 0 ?_ ?_
                        · refine ⟨by omega, rfl, rfl, ?_⟩
                          rw [List.take_zero, List.all_nil, Bool.and_true]
                          have ed : decide ((hex.length : Int) = 8) = decide (hex.length = 8) := by rw [decide_eq_decide]; omega
                          ((try simp -implicitDefEqProofs only [later, laterE, laterD, laterR]); (repeat (first | simp -implicitDefEqProofs only [go_sem, ↓reduceIte, Nat.reduceEqDiff, Nat.reduceAdd, Nat.reduceLeDiff, Nat.reduceLT, Nat.reduceMul, reduceCtorEq, Int.reduceEq, Int.reduceLT, Int.reduceLE, Int.reduceNeg, Int.reduceToNat, Int.reduceMul, Int.reduceAdd, Int.reduceSub, ed] | simp (disch := (first | omega | (simp only [go_sem]; done) | (simp only [lens]; omega))) only [wrap_u8_id, wrap_u32_id, wrap_u64_id, wrap_i64_id, wrap_i32_id, tmod_nn, tdiv_nn, Int.toNat_natCast, bnd_nh, bnd_ln, bnd_lh, is_str, ix_sl, ir_ptr, ia_agg, tsC_cells, mk_ints, evb_sadd, decide_t, decide_f, hadd_ne', hset_ne', srcC_cells, ap_nil, ap_sl, apC_cells, goNSC_on, goNSC_end, stC_one, stC_agg, fillC_one, fillC_agg, part_t, box_one, box_agg, evb_quo, evb_rem, evb_shl, evb_shr, saC_cells, ds_sl, ed])))
                        · rintro k ⟨t, d⟩ h4 ⟨hk, rfl, hd, t10, t11, t12, t13⟩
                          simp only at hd t10 t11 t12 t13; subst hd
                          by_cases ck : k < hex.length
                          · obtain ⟨x, hx⟩ : ∃ x, hex[k]? = some x := ⟨hex[k], List.getElem?_eq_getElem ck⟩
                            have hsu := all_succ hx isHex
                            have hxh := isHex_of (c := x)
                            have hxl := x.toNat_lt
                            cases hok : (decide (hex.length = 8) && (hex.take k).all isHex)
                            · rw [hok] at t12
                              have hok' : (decide (hex.length = 8) && (hex.take (k + 1)).all isHex) = false := by rw [hsu, ← Bool.and_assoc, hok]; rfl
                              ((try simp -implicitDefEqProofs only [later, laterE, laterD, laterR]); (repeat (first | simp -implicitDefEqProofs only [go_sem, ↓reduceIte, Nat.reduceEqDiff, Nat.reduceAdd, Nat.reduceLeDiff, Nat.reduceLT, Nat.reduceMul, reduceCtorEq, Int.reduceEq, Int.reduceLT, Int.reduceLE, Int.reduceNeg, Int.reduceToNat, Int.reduceMul, Int.reduceAdd, Int.reduceSub, t10, t11, t12, t13, hx] | simp (disch := (first | omega | (simp only [go_sem]; done) | (simp only [lens]; omega))) only [wrap_u8_id, wrap_u32_id, wrap_u64_id, wrap_i64_id, wrap_i32_id, tmod_nn, tdiv_nn, Int.toNat_natCast, bnd_nh, bnd_ln, bnd_lh, is_str, ix_sl, ir_ptr, ia_agg, tsC_cells, mk_ints, evb_sadd, decide_t, decide_f, hadd_ne', hset_ne', srcC_cells, ap_nil, ap_sl, apC_cells, goNSC_on, goNSC_end, stC_one, stC_agg, fillC_one, fillC_agg, part_t, box_one, box_agg, evb_quo, evb_rem, evb_shl, evb_shr, saC_cells, ds_sl, t10, t11, t12, t13, hx])))
                              refine ⟨k + 1, ?_⟩
                              rw [hok']
                              ((try simp -implicitDefEqProofs only [later, laterE, laterD, laterR]); (repeat (first | simp -implicitDefEqProofs only [go_sem, ↓reduceIte, Nat.reduceEqDiff, Nat.reduceAdd, Nat.reduceLeDiff, Nat.reduceLT, Nat.reduceMul, reduceCtorEq, Int.reduceEq, Int.reduceLT, Int.reduceLE, Int.reduceNeg, Int.reduceToNat, Int.reduceMul, Int.reduceAdd, Int.reduceSub, t10, t11, t12, t13] | simp (disch := (first | omega | (simp only [go_sem]; done) | (simp only [lens]; omega))) only [wrap_u8_id, wrap_u32_id, wrap_u64_id, wrap_i64_id, wrap_i32_id, tmod_nn, tdiv_nn, Int.toNat_natCast, bnd_nh, bnd_ln, bnd_lh, is_str, ix_sl, ir_ptr, ia_agg, tsC_cells, mk_ints, evb_sadd, decide_t, decide_f, hadd_ne', hset_ne', srcC_cells, ap_nil, ap_sl, apC_cells, goNSC_on, goNSC_end, stC_one, stC_agg, fillC_one, fillC_agg, part_t, box_one, box_agg, evb_quo, evb_rem, evb_shl, evb_shr, saC_cells, ds_sl, t10, t11, t12, t13])))
                              ((repeat' apply And.intro) <;> (first | omega | rfl | assumption | (congr 1 <;> omega) | skip))
                            · rw [hok] at t12
                              have hok' : (decide (hex.length = 8) && (hex.take (k + 1)).all isHex) = isHex x := by rw [hsu, ← Bool.and_assoc, hok]; rfl
                              cases hh : isHex x
                              · rw [hh] at hok' hxh
                                have hxh : ¬ ((48 ≤ x.toNat ∧ x.toNat ≤ 57) ∨ (97 ≤ x.toNat ∧ x.toNat ≤ 102)) := fun e => by cases hxh.2 e
                                have h5 : x.toNat < 48 ∨ (58 ≤ x.toNat ∧ x.toNat < 97) ∨ 103 ≤ x.toNat := by omega
                                rcases h5 with h5 | h5 | h5
                                all_goals
                                  ((try simp -implicitDefEqProofs only [later, laterE, laterD, laterR]); (repeat (first | simp -implicitDefEqProofs only [go_sem, ↓reduceIte, Nat.reduceEqDiff, Nat.reduceAdd, Nat.reduceLeDiff, Nat.reduceLT, Nat.reduceMul, reduceCtorEq, Int.reduceEq, Int.reduceLT, Int.reduceLE, Int.reduceNeg, Int.reduceToNat, Int.reduceMul, Int.reduceAdd, Int.reduceSub, t10, t11, t12, t13, hx] | simp (disch := (first | omega | (simp only [go_sem]; done) | (simp only [lens]; omega))) only [wrap_u8_id, wrap_u32_id, wrap_u64_id, wrap_i64_id, wrap_i32_id, tmod_nn, tdiv_nn, Int.toNat_natCast, bnd_nh, bnd_ln, bnd_lh, is_str, ix_sl, ir_ptr, ia_agg, tsC_cells, mk_ints, evb_sadd, decide_t, decide_f, hadd_ne', hset_ne', srcC_cells, ap_nil, ap_sl, apC_cells, goNSC_on, goNSC_end, stC_one, stC_agg, fillC_one, fillC_agg, part_t, box_one, box_agg, evb_quo, evb_rem, evb_shl, evb_shr, saC_cells, ds_sl, t10, t11, t12, t13, hx])))
                                  refine ⟨k + 1, ?_⟩
                                  rw [hok']
                                  ((try simp -implicitDefEqProofs only [later, laterE, laterD, laterR]); (repeat (first | simp -implicitDefEqProofs only [go_sem, ↓reduceIte, Nat.reduceEqDiff, Nat.reduceAdd, Nat.reduceLeDiff, Nat.reduceLT, Nat.reduceMul, reduceCtorEq, Int.reduceEq, Int.reduceLT, Int.reduceLE, Int.reduceNeg, Int.reduceToNat, Int.reduceMul, Int.reduceAdd, Int.reduceSub, t10, t11, t12, t13] | simp (disch := (first | omega | (simp only [go_sem]; done) | (simp only [lens]; omega))) only [wrap_u8_id, wrap_u32_id, wrap_u64_id, wrap_i64_id, wrap_i32_id, tmod_nn, tdiv_nn, Int.toNat_natCast, bnd_nh, bnd_ln, bnd_lh, is_str, ix_sl, ir_ptr, ia_agg, tsC_cells, mk_ints, evb_sadd, decide_t, decide_f, hadd_ne', hset_ne', srcC_cells, ap_nil, ap_sl, apC_cells, goNSC_on, goNSC_end, stC_one, stC_agg, fillC_one, fillC_agg, part_t, box_one, box_agg, evb_quo, evb_rem, evb_shl, evb_shr, saC_cells, ds_sl, t10, t11, t12, t13])))
                                  ((repeat' apply And.intro) <;> (first | omega | rfl | assumption | (congr 1 <;> omega) | skip))
                              · rw [hh] at hok' hxh
                                rcases hxh.1 rfl with h5 | h5
                                all_goals
                                  ((try simp -implicitDefEqProofs only [later, laterE, laterD, laterR]); (repeat (first | simp -implicitDefEqProofs only [go_sem, ↓reduceIte, Nat.reduceEqDiff, Nat.reduceAdd, Nat.reduceLeDiff, Nat.reduceLT, Nat.reduceMul, reduceCtorEq, Int.reduceEq, Int.reduceLT, Int.reduceLE, Int.reduceNeg, Int.reduceToNat, Int.reduceMul, Int.reduceAdd, Int.reduceSub, t10, t11, t12, t13, hx] | simp (disch := (first | omega | (simp only [go_sem]; done) | (simp only [lens]; omega))) only [wrap_u8_id, wrap_u32_id, wrap_u64_id, wrap_i64_id, wrap_i32_id, tmod_nn, tdiv_nn, Int.toNat_natCast, bnd_nh, bnd_ln, bnd_lh, is_str, ix_sl, ir_ptr, ia_agg, tsC_cells, mk_ints, evb_sadd, decide_t, decide_f, hadd_ne', hset_ne', srcC_cells, ap_nil, ap_sl, apC_cells, goNSC_on, goNSC_end, stC_one, stC_agg, fillC_one, fillC_agg, part_t, box_one, box_agg, evb_quo, evb_rem, evb_shl, evb_shr, saC_cells, ds_sl, t10, t11, t12, t13, hx])))
                                  refine ⟨k + 1, ?_⟩
                                  rw [hok']
                                  ((try simp -implicitDefEqProofs only [later, laterE, laterD, laterR]); (repeat (first | simp -implicitDefEqProofs only [go_sem, ↓reduceIte, Nat.reduceEqDiff, Nat.reduceAdd, Nat.reduceLeDiff, Nat.reduceLT, Nat.reduceMul, reduceCtorEq, Int.reduceEq, Int.reduceLT, Int.reduceLE, Int.reduceNeg, Int.reduceToNat, Int.reduceMul, Int.reduceAdd, Int.reduceSub, t10, t11, t12, t13] | simp (disch := (first | omega | (simp only [go_sem]; done) | (simp only [lens]; omega))) only [wrap_u8_id, wrap_u32_id, wrap_u64_id, wrap_i64_id, wrap_i32_id, tmod_nn, tdiv_nn, Int.toNat_natCast, bnd_nh, bnd_ln, bnd_lh, is_str, ix_sl, ir_ptr, ia_agg, tsC_cells, mk_ints, evb_sadd, decide_t, decide_f, hadd_ne', hset_ne', srcC_cells, ap_nil, ap_sl, apC_cells, goNSC_on, goNSC_end, stC_one, stC_agg, fillC_one, fillC_agg, part_t, box_one, box_agg, evb_quo, evb_rem, evb_shl, evb_shr, saC_cells, ds_sl, t10, t11, t12, t13])))
                                  ((repeat' apply And.intro) <;> (first | omega | rfl | assumption | (congr 1 <;> omega) | skip))
                          · rw [show k = hex.length from by omega, List.take_length] at t12
                            by_cases c8 : hex.length = 8 ∧ hex.all isHex = true
                            · have ec : codeOf hex tt = if hex = hexOf (sumOf tt) then 0 else 4 := by unfold codeOf; rw [if_pos c8]
                              rw [c8.2, decide_eq_true c8.1] at t12
                              rw [ec] at hq
                              have htl : tt.length ≤ 1000000 := by omega
                              by_cases ch : hex = hexOf (sumOf tt)
                              · rw [if_pos ch, if_pos rfl] at hq
                                ((try simp -implicitDefEqProofs only [later, laterE, laterD, laterR]); (repeat (first | simp -implicitDefEqProofs only [go_sem, ↓reduceIte, Nat.reduceEqDiff, Nat.reduceAdd, Nat.reduceLeDiff, Nat.reduceLT, Nat.reduceMul, reduceCtorEq, Int.reduceEq, Int.reduceLT, Int.reduceLE, Int.reduceNeg, Int.reduceToNat, Int.reduceMul, Int.reduceAdd, Int.reduceSub, t10, t11, t12, t13] | simp (disch := (first | omega | (simp only [go_sem]; done) | (simp only [lens]; omega))) only [wrap_u8_id, wrap_u32_id, wrap_u64_id, wrap_i64_id, wrap_i32_id, tmod_nn, tdiv_nn, Int.toNat_natCast, bnd_nh, bnd_ln, bnd_lh, is_str, ix_sl, ir_ptr, ia_agg, tsC_cells, mk_ints, evb_sadd, decide_t, decide_f, hadd_ne', hset_ne', srcC_cells, ap_nil, ap_sl, apC_cells, goNSC_on, goNSC_end, stC_one, stC_agg, fillC_one, fillC_agg, part_t, box_one, box_agg, evb_quo, evb_rem, evb_shl, evb_shr, saC_cells, ds_sl, t10, t11, t12, t13])))
                                refine rSumOf_ac tt htl ?_
                                ((try simp -implicitDefEqProofs only [later, laterE, laterD, laterR]); (repeat (first | simp -implicitDefEqProofs only [go_sem, ↓reduceIte, Nat.reduceEqDiff, Nat.reduceAdd, Nat.reduceLeDiff, Nat.reduceLT, Nat.reduceMul, reduceCtorEq, Int.reduceEq, Int.reduceLT, Int.reduceLE, Int.reduceNeg, Int.reduceToNat, Int.reduceMul, Int.reduceAdd, Int.reduceSub, t10, t11, t12, t13] | simp (disch := (first | omega | (simp only [go_sem]; done) | (simp only [lens]; omega))) only [wrap_u8_id, wrap_u32_id, wrap_u64_id, wrap_i64_id, wrap_i32_id, tmod_nn, tdiv_nn, Int.toNat_natCast, bnd_nh, bnd_ln, bnd_lh, is_str, ix_sl, ir_ptr, ia_agg, tsC_cells, mk_ints, evb_sadd, decide_t, decide_f, hadd_ne', hset_ne', srcC_cells, ap_nil, ap_sl, apC_cells, goNSC_on, goNSC_end, stC_one, stC_agg, fillC_one, fillC_agg, part_t, box_one, box_agg, evb_quo, evb_rem, evb_shl, evb_shr, saC_cells, ds_sl, t10, t11, t12, t13])))
                                refine rHex_ac _ (sumOf_lt tt) ?_
                                have ch' : decide (¬ hex = hexOf (sumOf tt)) = false := decide_eq_false (fun h => h ch)
                                ((try simp -implicitDefEqProofs only [later, laterE, laterD, laterR]); (repeat (first | simp -implicitDefEqProofs only [go_sem, ↓reduceIte, Nat.reduceEqDiff, Nat.reduceAdd, Nat.reduceLeDiff, Nat.reduceLT, Nat.reduceMul, reduceCtorEq, Int.reduceEq, Int.reduceLT, Int.reduceLE, Int.reduceNeg, Int.reduceToNat, Int.reduceMul, Int.reduceAdd, Int.reduceSub, t10, t11, t12, t13, ch'] | simp (disch := (first | omega | (simp only [go_sem]; done) | (simp only [lens]; omega))) only [wrap_u8_id, wrap_u32_id, wrap_u64_id, wrap_i64_id, wrap_i32_id, tmod_nn, tdiv_nn, Int.toNat_natCast, bnd_nh, bnd_ln, bnd_lh, is_str, ix_sl, ir_ptr, ia_agg, tsC_cells, mk_ints, evb_sadd, decide_t, decide_f, hadd_ne', hset_ne', srcC_cells, ap_nil, ap_sl, apC_cells, goNSC_on, goNSC_end, stC_one, stC_agg, fillC_one, fillC_agg, part_t, box_one, box_agg, evb_quo, evb_rem, evb_shl, evb_shr, saC_cells, ds_sl, t10, t11, t12, t13, ch'])))
                                exact ⟨_, Sub.refl, hq⟩
                              · rw [if_neg ch, if_neg (by decide)] at hq
                                ((try simp -implicitDefEqProofs only [later, laterE, laterD, laterR]); (repeat (first | simp -implicitDefEqProofs only [go_sem, ↓reduceIte, Nat.reduceEqDiff, Nat.reduceAdd, Nat.reduceLeDiff, Nat.reduceLT, Nat.reduceMul, reduceCtorEq, Int.reduceEq, Int.reduceLT, Int.reduceLE, Int.reduceNeg, Int.reduceToNat, Int.reduceMul, Int.reduceAdd, Int.reduceSub, t10, t11, t12, t13] | simp (disch := (first | omega | (simp only [go_sem]; done) | (simp only [lens]; omega))) only [wrap_u8_id, wrap_u32_id, wrap_u64_id, wrap_i64_id, wrap_i32_id, tmod_nn, tdiv_nn, Int.toNat_natCast, bnd_nh, bnd_ln, bnd_lh, is_str, ix_sl, ir_ptr, ia_agg, tsC_cells, mk_ints, evb_sadd, decide_t, decide_f, hadd_ne', hset_ne', srcC_cells, ap_nil, ap_sl, apC_cells, goNSC_on, goNSC_end, stC_one, stC_agg, fillC_one, fillC_agg, part_t, box_one, box_agg, evb_quo, evb_rem, evb_shl, evb_shr, saC_cells, ds_sl, t10, t11, t12, t13])))
                                refine rSumOf_ac tt htl ?_
                                ((try simp -implicitDefEqProofs only [later, laterE, laterD, laterR]); (repeat (first | simp -implicitDefEqProofs only [go_sem, ↓reduceIte, Nat.reduceEqDiff, Nat.reduceAdd, Nat.reduceLeDiff, Nat.reduceLT, Nat.reduceMul, reduceCtorEq, Int.reduceEq, Int.reduceLT, Int.reduceLE, Int.reduceNeg, Int.reduceToNat, Int.reduceMul, Int.reduceAdd, Int.reduceSub, t10, t11, t12, t13] | simp (disch := (first | omega | (simp only [go_sem]; done) | (simp only [lens]; omega))) only [wrap_u8_id, wrap_u32_id, wrap_u64_id, wrap_i64_id, wrap_i32_id, tmod_nn, tdiv_nn, Int.toNat_natCast, bnd_nh, bnd_ln, bnd_lh, is_str, ix_sl, ir_ptr, ia_agg, tsC_cells, mk_ints, evb_sadd, decide_t, decide_f, hadd_ne', hset_ne', srcC_cells, ap_nil, ap_sl, apC_cells, goNSC_on, goNSC_end, stC_one, stC_agg, fillC_one, fillC_agg, part_t, box_one, box_agg, evb_quo, evb_rem, evb_shl, evb_shr, saC_cells, ds_sl, t10, t11, t12, t13])))
                                refine rHex_ac _ (sumOf_lt tt) ?_
                                ((try simp -implicitDefEqProofs only [later, laterE, laterD, laterR]); (repeat (first | simp -implicitDefEqProofs only [go_sem, ↓reduceIte, Nat.reduceEqDiff, Nat.reduceAdd, Nat.reduceLeDiff, Nat.reduceLT, Nat.reduceMul, reduceCtorEq, Int.reduceEq, Int.reduceLT, Int.reduceLE, Int.reduceNeg, Int.reduceToNat, Int.reduceMul, Int.reduceAdd, Int.reduceSub, t10, t11, t12, t13, decide_eq_true ch] | simp (disch := (first | omega | (simp only [go_sem]; done) | (simp only [lens]; omega))) only [wrap_u8_id, wrap_u32_id, wrap_u64_id, wrap_i64_id, wrap_i32_id, tmod_nn, tdiv_nn, Int.toNat_natCast, bnd_nh, bnd_ln, bnd_lh, is_str, ix_sl, ir_ptr, ia_agg, tsC_cells, mk_ints, evb_sadd, decide_t, decide_f, hadd_ne', hset_ne', srcC_cells, ap_nil, ap_sl, apC_cells, goNSC_on, goNSC_end, stC_one, stC_agg, fillC_one, fillC_agg, part_t, box_one, box_agg, evb_quo, evb_rem, evb_shl, evb_shr, saC_cells, ds_sl, t10, t11, t12, t13, decide_eq_true ch])))
                                exact ⟨_, Sub.refl, hq⟩
                            · have ec : codeOf hex tt = 3 := by unfold codeOf; rw [if_neg c8]
                              have e8 : (decide (hex.length = 8) && hex.all isHex) = false := by
                                cases h6 : (decide (hex.length = 8) && hex.all isHex)
                                · rfl
                                · rw [Bool.and_eq_true, decide_eq_true_eq] at h6; exact absurd h6 c8
                              rw [e8] at t12
                              rw [ec, if_neg (by decide)] at hq
                              ((try simp -implicitDefEqProofs only [later, laterE, laterD, laterR]); (repeat (first | simp -implicitDefEqProofs only [go_sem, ↓reduceIte, Nat.reduceEqDiff, Nat.reduceAdd, Nat.reduceLeDiff, Nat.reduceLT, Nat.reduceMul, reduceCtorEq, Int.reduceEq, Int.reduceLT, Int.reduceLE, Int.reduceNeg, Int.reduceToNat, Int.reduceMul, Int.reduceAdd, Int.reduceSub, t10, t11, t12, t13] | simp (disch := (first | omega | (simp only [go_sem]; done) | (simp only [lens]; omega))) only [wrap_u8_id, wrap_u32_id, wrap_u64_id, wrap_i64_id, wrap_i32_id, tmod_nn, tdiv_nn, Int.toNat_natCast, bnd_nh, bnd_ln, bnd_lh, is_str, ix_sl, ir_ptr, ia_agg, tsC_cells, mk_ints, evb_sadd, decide_t, decide_f, hadd_ne', hset_ne', srcC_cells, ap_nil, ap_sl, apC_cells, goNSC_on, goNSC_end, stC_one, stC_agg, fillC_one, fillC_agg, part_t, box_one, box_agg, evb_quo, evb_rem, evb_shl, evb_shr, saC_cells, ds_sl, t10, t11, t12, t13])))
                              exact ⟨_, Sub.refl, hq⟩
                  · rw [headOf3 fun number hex e hn ok => ?_] at hq
                    · have hu64 : u < 18446744073709551616 := Nat.lt_trans (Nat.lt_of_lt_of_le hul (Nat.pow_le_pow_right (n := 10) (j := 19) (by decide) (by omega))) (by decide)
                      by_cases k32 : c = 32
                      · subst k32
                        have e32 : (((32 : UInt8).toNat : Nat) : Int) = 32 := rfl
                        by_cases k0 : j = 0
                        · ((try simp -implicitDefEqProofs only [later, laterE, laterD, laterR]); (repeat (first | simp -implicitDefEqProofs only [go_sem, ↓reduceIte, Nat.reduceEqDiff, Nat.reduceAdd, Nat.reduceLeDiff, Nat.reduceLT, Nat.reduceMul, reduceCtorEq, Int.reduceEq, Int.reduceLT, Int.reduceLE, Int.reduceNeg, Int.reduceToNat, Int.reduceMul, Int.reduceAdd, Int.reduceSub, t0, t6, t7, t8, ej, hc', e32] | simp (disch := (first | omega | (simp only [go_sem]; done) | (simp only [lens]; omega))) only [wrap_u8_id, wrap_u32_id, wrap_u64_id, wrap_i64_id, wrap_i32_id, tmod_nn, tdiv_nn, Int.toNat_natCast, bnd_nh, bnd_ln, bnd_lh, is_str, ix_sl, ir_ptr, ia_agg, tsC_cells, mk_ints, evb_sadd, decide_t, decide_f, hadd_ne', hset_ne', srcC_cells, ap_nil, ap_sl, apC_cells, goNSC_on, goNSC_end, stC_one, stC_agg, fillC_one, fillC_agg, part_t, box_one, box_agg, evb_quo, evb_rem, evb_shl, evb_shr, saC_cells, ds_sl, t0, t6, t7, t8, ej, hc', e32])))
                          exact ⟨_, Sub.refl, hq⟩
                        · by_cases ku : u < 9223372036854775808
                          · have kd : ¬ dec u = head.take j := fun e => good ⟨rfl, by omega, ku, e⟩
                            ((try simp -implicitDefEqProofs only [later, laterE, laterD, laterR]); (repeat (first | simp -implicitDefEqProofs only [go_sem, ↓reduceIte, Nat.reduceEqDiff, Nat.reduceAdd, Nat.reduceLeDiff, Nat.reduceLT, Nat.reduceMul, reduceCtorEq, Int.reduceEq, Int.reduceLT, Int.reduceLE, Int.reduceNeg, Int.reduceToNat, Int.reduceMul, Int.reduceAdd, Int.reduceSub, t0, t6, t7, t8, ej, hc', e32, fS1 j hj] | simp (disch := (first | omega | (simp only [go_sem]; done) | (simp only [lens]; omega))) only [wrap_u8_id, wrap_u32_id, wrap_u64_id, wrap_i64_id, wrap_i32_id, tmod_nn, tdiv_nn, Int.toNat_natCast, bnd_nh, bnd_ln, bnd_lh, is_str, ix_sl, ir_ptr, ia_agg, tsC_cells, mk_ints, evb_sadd, decide_t, decide_f, hadd_ne', hset_ne', srcC_cells, ap_nil, ap_sl, apC_cells, goNSC_on, goNSC_end, stC_one, stC_agg, fillC_one, fillC_agg, part_t, box_one, box_agg, evb_quo, evb_rem, evb_shl, evb_shr, saC_cells, ds_sl, t0, t6, t7, t8, ej, hc', e32, fS1 j hj])))
                            refine rDigits_ac u hu64 ?_
                            ((try simp -implicitDefEqProofs only [later, laterE, laterD, laterR]); (repeat (first | simp -implicitDefEqProofs only [go_sem, ↓reduceIte, Nat.reduceEqDiff, Nat.reduceAdd, Nat.reduceLeDiff, Nat.reduceLT, Nat.reduceMul, reduceCtorEq, Int.reduceEq, Int.reduceLT, Int.reduceLE, Int.reduceNeg, Int.reduceToNat, Int.reduceMul, Int.reduceAdd, Int.reduceSub, t0, t6, t7, t8, ej, hc', e32, fS1 j hj, decide_eq_false kd] | simp (disch := (first | omega | (simp only [go_sem]; done) | (simp only [lens]; omega))) only [wrap_u8_id, wrap_u32_id, wrap_u64_id, wrap_i64_id, wrap_i32_id, tmod_nn, tdiv_nn, Int.toNat_natCast, bnd_nh, bnd_ln, bnd_lh, is_str, ix_sl, ir_ptr, ia_agg, tsC_cells, mk_ints, evb_sadd, decide_t, decide_f, hadd_ne', hset_ne', srcC_cells, ap_nil, ap_sl, apC_cells, goNSC_on, goNSC_end, stC_one, stC_agg, fillC_one, fillC_agg, part_t, box_one, box_agg, evb_quo, evb_rem, evb_shl, evb_shr, saC_cells, ds_sl, t0, t6, t7, t8, ej, hc', e32, fS1 j hj, decide_eq_false kd])))
                            exact ⟨_, Sub.refl, hq⟩
                          · ((try simp -implicitDefEqProofs only [later, laterE, laterD, laterR]); (repeat (first | simp -implicitDefEqProofs only [go_sem, ↓reduceIte, Nat.reduceEqDiff, Nat.reduceAdd, Nat.reduceLeDiff, Nat.reduceLT, Nat.reduceMul, reduceCtorEq, Int.reduceEq, Int.reduceLT, Int.reduceLE, Int.reduceNeg, Int.reduceToNat, Int.reduceMul, Int.reduceAdd, Int.reduceSub, t0, t6, t7, t8, ej, hc', e32] | simp (disch := (first | omega | (simp only [go_sem]; done) | (simp only [lens]; omega))) only [wrap_u8_id, wrap_u32_id, wrap_u64_id, wrap_i64_id, wrap_i32_id, tmod_nn, tdiv_nn, Int.toNat_natCast, bnd_nh, bnd_ln, bnd_lh, is_str, ix_sl, ir_ptr, ia_agg, tsC_cells, mk_ints, evb_sadd, decide_t, decide_f, hadd_ne', hset_ne', srcC_cells, ap_nil, ap_sl, apC_cells, goNSC_on, goNSC_end, stC_one, stC_agg, fillC_one, fillC_agg, part_t, box_one, box_agg, evb_quo, evb_rem, evb_shl, evb_shr, saC_cells, ds_sl, t0, t6, t7, t8, ej, hc', e32])))
                            exact ⟨_, Sub.refl, hq⟩
                      · have cn : ¬ ((c.toNat : Nat) : Int) = 32 := fun e => k32 (UInt8.toNat_inj.1 (by show c.toNat = 32; omega))
                        by_cases k48 : c.toNat < 48
                        · by_cases k0 : j = 0
                          · ((try simp -implicitDefEqProofs only [later, laterE, laterD, laterR]); (repeat (first | simp -implicitDefEqProofs only [go_sem, ↓reduceIte, Nat.reduceEqDiff, Nat.reduceAdd, Nat.reduceLeDiff, Nat.reduceLT, Nat.reduceMul, reduceCtorEq, Int.reduceEq, Int.reduceLT, Int.reduceLE, Int.reduceNeg, Int.reduceToNat, Int.reduceMul, Int.reduceAdd, Int.reduceSub, t0, t6, t7, t8, ej, hc', cn] | simp (disch := (first | omega | (simp only [go_sem]; done) | (simp only [lens]; omega))) only [wrap_u8_id, wrap_u32_id, wrap_u64_id, wrap_i64_id, wrap_i32_id, tmod_nn, tdiv_nn, Int.toNat_natCast, bnd_nh, bnd_ln, bnd_lh, is_str, ix_sl, ir_ptr, ia_agg, tsC_cells, mk_ints, evb_sadd, decide_t, decide_f, hadd_ne', hset_ne', srcC_cells, ap_nil, ap_sl, apC_cells, goNSC_on, goNSC_end, stC_one, stC_agg, fillC_one, fillC_agg, part_t, box_one, box_agg, evb_quo, evb_rem, evb_shl, evb_shr, saC_cells, ds_sl, t0, t6, t7, t8, ej, hc', cn])))
                            exact ⟨_, Sub.refl, hq⟩
                          · ((try simp -implicitDefEqProofs only [later, laterE, laterD, laterR]); (repeat (first | simp -implicitDefEqProofs only [go_sem, ↓reduceIte, Nat.reduceEqDiff, Nat.reduceAdd, Nat.reduceLeDiff, Nat.reduceLT, Nat.reduceMul, reduceCtorEq, Int.reduceEq, Int.reduceLT, Int.reduceLE, Int.reduceNeg, Int.reduceToNat, Int.reduceMul, Int.reduceAdd, Int.reduceSub, t0, t6, t7, t8, ej, hc', cn] | simp (disch := (first | omega | (simp only [go_sem]; done) | (simp only [lens]; omega))) only [wrap_u8_id, wrap_u32_id, wrap_u64_id, wrap_i64_id, wrap_i32_id, tmod_nn, tdiv_nn, Int.toNat_natCast, bnd_nh, bnd_ln, bnd_lh, is_str, ix_sl, ir_ptr, ia_agg, tsC_cells, mk_ints, evb_sadd, decide_t, decide_f, hadd_ne', hset_ne', srcC_cells, ap_nil, ap_sl, apC_cells, goNSC_on, goNSC_end, stC_one, stC_agg, fillC_one, fillC_agg, part_t, box_one, box_agg, evb_quo, evb_rem, evb_shl, evb_shr, saC_cells, ds_sl, t0, t6, t7, t8, ej, hc', cn])))
                            exact ⟨_, Sub.refl, hq⟩
                        · by_cases k0 : j = 0
                          · ((try simp -implicitDefEqProofs only [later, laterE, laterD, laterR]); (repeat (first | simp -implicitDefEqProofs only [go_sem, ↓reduceIte, Nat.reduceEqDiff, Nat.reduceAdd, Nat.reduceLeDiff, Nat.reduceLT, Nat.reduceMul, reduceCtorEq, Int.reduceEq, Int.reduceLT, Int.reduceLE, Int.reduceNeg, Int.reduceToNat, Int.reduceMul, Int.reduceAdd, Int.reduceSub, t0, t6, t7, t8, ej, hc', cn] | simp (disch := (first | omega | (simp only [go_sem]; done) | (simp only [lens]; omega))) only [wrap_u8_id, wrap_u32_id, wrap_u64_id, wrap_i64_id, wrap_i32_id, tmod_nn, tdiv_nn, Int.toNat_natCast, bnd_nh, bnd_ln, bnd_lh, is_str, ix_sl, ir_ptr, ia_agg, tsC_cells, mk_ints, evb_sadd, decide_t, decide_f, hadd_ne', hset_ne', srcC_cells, ap_nil, ap_sl, apC_cells, goNSC_on, goNSC_end, stC_one, stC_agg, fillC_one, fillC_agg, part_t, box_one, box_agg, evb_quo, evb_rem, evb_shl, evb_shr, saC_cells, ds_sl, t0, t6, t7, t8, ej, hc', cn])))
                            exact ⟨_, Sub.refl, hq⟩
                          · ((try simp -implicitDefEqProofs only [later, laterE, laterD, laterR]); (repeat (first | simp -implicitDefEqProofs only [go_sem, ↓reduceIte, Nat.reduceEqDiff, Nat.reduceAdd, Nat.reduceLeDiff, Nat.reduceLT, Nat.reduceMul, reduceCtorEq, Int.reduceEq, Int.reduceLT, Int.reduceLE, Int.reduceNeg, Int.reduceToNat, Int.reduceMul, Int.reduceAdd, Int.reduceSub, t0, t6, t7, t8, ej, hc', cn] | simp (disch := (first | omega | (simp only [go_sem]; done) | (simp only [lens]; omega))) only [wrap_u8_id, wrap_u32_id, wrap_u64_id, wrap_i64_id, wrap_i32_id, tmod_nn, tdiv_nn, Int.toNat_natCast, bnd_nh, bnd_ln, bnd_lh, is_str, ix_sl, ir_ptr, ia_agg, tsC_cells, mk_ints, evb_sadd, decide_t, decide_f, hadd_ne', hset_ne', srcC_cells, ap_nil, ap_sl, apC_cells, goNSC_on, goNSC_end, stC_one, stC_agg, fillC_one, fillC_agg, part_t, box_one, box_agg, evb_quo, evb_rem, evb_shl, evb_shr, saC_cells, ds_sl, t0, t6, t7, t8, ej, hc', cn])))
                            exact ⟨_, Sub.refl, hq⟩
                    · obtain ⟨e1, e2⟩ := first_nd hall hc cd e (numOk_dg ok)
                      have e3 : head.take j = number := by rw [e, ← e1]; simp
                      refine good ⟨e2, ?_, ?_, ?_⟩
                      · rcases Nat.eq_zero_or_pos j with h | h
                        · rw [h] at e3
                          have := ok.1
                          rw [← e3] at this
                          exact absurd this.symm (dec_ne _)
                        · exact h
                      · rw [hu, e3]; exact ok.2
                      · rw [hu, e3]; exact ok.1.symm
              · have ejl : j = head.length := by omega
                subst ejl
                rw [List.take_length] at hall
                rw [headOf3 fun number hex e hn ok => ?_] at hq
                · by_cases c0 : head.length = 0
                  · ((try simp -implicitDefEqProofs only [later, laterE, laterD, laterR]); (repeat (first | simp -implicitDefEqProofs only [go_sem, ↓reduceIte, Nat.reduceEqDiff, Nat.reduceAdd, Nat.reduceLeDiff, Nat.reduceLT, Nat.reduceMul, reduceCtorEq, Int.reduceEq, Int.reduceLT, Int.reduceLE, Int.reduceNeg, Int.reduceToNat, Int.reduceMul, Int.reduceAdd, Int.reduceSub, t0, t6, t7, t8, ej] | simp (disch := (first | omega | (simp only [go_sem]; done) | (simp only [lens]; omega))) only [wrap_u8_id, wrap_u32_id, wrap_u64_id, wrap_i64_id, wrap_i32_id, tmod_nn, tdiv_nn, Int.toNat_natCast, bnd_nh, bnd_ln, bnd_lh, is_str, ix_sl, ir_ptr, ia_agg, tsC_cells, mk_ints, evb_sadd, decide_t, decide_f, hadd_ne', hset_ne', srcC_cells, ap_nil, ap_sl, apC_cells, goNSC_on, goNSC_end, stC_one, stC_agg, fillC_one, fillC_agg, part_t, box_one, box_agg, evb_quo, evb_rem, evb_shl, evb_shr, saC_cells, ds_sl, t0, t6, t7, t8, ej])))
                    exact ⟨_, Sub.refl, hq⟩
                  · ((try simp -implicitDefEqProofs only [later, laterE, laterD, laterR]); (repeat (first | simp -implicitDefEqProofs only [go_sem, ↓reduceIte, Nat.reduceEqDiff, Nat.reduceAdd, Nat.reduceLeDiff, Nat.reduceLT, Nat.reduceMul, reduceCtorEq, Int.reduceEq, Int.reduceLT, Int.reduceLE, Int.reduceNeg, Int.reduceToNat, Int.reduceMul, Int.reduceAdd, Int.reduceSub, t0, t6, t7, t8, ej] | simp (disch := (first | omega | (simp only [go_sem]; done) | (simp only [lens]; omega))) only [wrap_u8_id, wrap_u32_id, wrap_u64_id, wrap_i64_id, wrap_i32_id, tmod_nn, tdiv_nn, Int.toNat_natCast, bnd_nh, bnd_ln, bnd_lh, is_str, ix_sl, ir_ptr, ia_agg, tsC_cells, mk_ints, evb_sadd, decide_t, decide_f, hadd_ne', hset_ne', srcC_cells, ap_nil, ap_sl, apC_cells, goNSC_on, goNSC_end, stC_one, stC_agg, fillC_one, fillC_agg, part_t, box_one, box_agg, evb_quo, evb_rem, evb_shl, evb_shr, saC_cells, ds_sl, t0, t6, t7, t8, ej])))
                    exact ⟨_, Sub.refl, hq⟩
                · rw [e, List.all_append] at hall
                  simp [isDg] at hall
end Go.Proofs.YtijipnkdabdioaaDoor
