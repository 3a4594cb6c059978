/- Walks, 2: a sum goes on. -/
import Derived.Test.YtfenkmaanbgalaaW1
set_option linter.unusedSimpArgs false
namespace Go.Proofs.Ytfenkmaanbgalaa
open Mir SumMath
def lenOf : V → Nat
  | .str s => s.length
  | _ => 0
theorem add_ac {h : H} {Q : V → H → Prop} (a b : Nat) (ha : a < 65521) (hb : b < 65521) (s : List UInt8) (hq : Q (.agg [.int .u32 (sa a s % 65521 : Nat), .int .u32 (sb a b s % 65521 : Nat)]) h) :
    AC pg (.fn 18) [.agg [.int .u32 a, .int .u32 b], .str s] h Q := by
  refine AC.fn (g := g18) rfl (by simp only [List.length_cons, List.length_nil, g18]; decide) ?_
  simp only [g18, E_skip, E_ops, E_seq, E_cond, E_block, E_exit, E_ret, opsE, stepE, HK.E, PK.ev, RK.ev, AK.ev, callV, Opd.ev, put, upd, wantedE, guardOk, andThen, atBlock, Mir.start, evBin, evBounds, evEq, evMm, evMms, partOf, fillIn, V.cells, V.flat, List.all_cons, List.all_nil, List.length_cons, List.length_nil, List.getElem?_cons_zero, List.getElem?_cons_succ, List.getElem?_nil, Option.getD_some, Option.getD_none, Option.map_some, Option.map_none, if_true, if_false, true_and, and_true, reduceIte, Nat.reduceEqDiff, Nat.reduceAdd, Nat.reduceLeDiff, dfrE, List.map_cons, List.map_nil, resOf, allSome, packed, reduceCtorEq, hadd_same, List.take_succ_cons, List.take_zero, List.drop_succ_cons, List.drop_zero, List.nil_append, List.append_nil, List.cons_append, Bool.true_eq_false, Bool.false_eq_true, beq_self_eq_true, false_or, or_false, true_or, or_true, not_true_eq_false, not_false_eq_true, ex_bool, true_implies, false_implies, Bool.not_true, Bool.not_false, Int.reduceBEq, Int.reduceEq, Int.reduceLT, Int.reduceLE, Int.reduceNeg, Bool.and_self, Bool.and_true, Bool.true_and, Option.bind_some, hadd_twice]
  intro b2 h2 b4 h4
  rw [hadd_none] at h4
  try simp only [E_skip, E_ops, E_seq, E_cond, E_block, E_exit, E_ret, opsE, stepE, HK.E, PK.ev, RK.ev, AK.ev, callV, Opd.ev, put, upd, wantedE, guardOk, andThen, atBlock, Mir.start, evBin, evBounds, evEq, evMm, evMms, partOf, fillIn, V.cells, V.flat, List.all_cons, List.all_nil, List.length_cons, List.length_nil, List.getElem?_cons_zero, List.getElem?_cons_succ, List.getElem?_nil, Option.getD_some, Option.getD_none, Option.map_some, Option.map_none, if_true, if_false, true_and, and_true, reduceIte, Nat.reduceEqDiff, Nat.reduceAdd, Nat.reduceLeDiff, dfrE, List.map_cons, List.map_nil, resOf, allSome, packed, reduceCtorEq, hadd_same, List.take_succ_cons, List.take_zero, List.drop_succ_cons, List.drop_zero, List.nil_append, List.append_nil, List.cons_append, Bool.true_eq_false, Bool.false_eq_true, beq_self_eq_true, false_or, or_false, true_or, or_true, not_true_eq_false, not_false_eq_true, ex_bool, true_implies, false_implies, Bool.not_true, Bool.not_false, Int.reduceBEq, Int.reduceEq, Int.reduceLT, Int.reduceLE, Int.reduceNeg, Bool.and_self, Bool.and_true, Bool.true_and, Option.bind_some, hadd_twice]
  refine E.loop AC.mono (fun a' h' => ∃ dn rest, s = dn ++ rest ∧ a'.d = [] ∧ a'.t 1 = .str rest ∧ a'.t 2 = .ptr b2 0 ∧ a'.t 4 = .ptr b4 0 ∧
    h' b2 = some (.cells [.int .u32 (sa a dn % 65521 : Nat), .int .u32 (sb a b dn % 65521 : Nat)] false) ∧ h' b4 = some (.cells [.int .u32 0, .int .u32 0] false) ∧ Sub h h') (fun a' _ => lenOf (a'.t 1)) ?_ ?_
  · refine ⟨[], s, rfl, rfl, rfl, rfl, rfl, ?_, hadd_same, Sub.put (Sub.put Sub.refl h2) h4.2⟩
    rw [hadd_ne (Ne.symm h4.1), hadd_same]
    simp only [sa, sb, Nat.mod_eq_of_lt ha, Nat.mod_eq_of_lt hb]
  · rintro ⟨t, d⟩ h' ⟨dn, rest, hs, hd, t1, t2, t4, m2, m4, hsub⟩
    simp only at hd t1 t2 t4
    subst hd
    simp only [E_skip, E_ops, E_seq, E_cond, E_block, E_exit, E_ret, opsE, stepE, HK.E, PK.ev, RK.ev, AK.ev, callV, Opd.ev, put, upd, wantedE, guardOk, andThen, atBlock, Mir.start, evBin, evBounds, evEq, evMm, evMms, partOf, fillIn, V.cells, V.flat, List.all_cons, List.all_nil, List.length_cons, List.length_nil, List.getElem?_cons_zero, List.getElem?_cons_succ, List.getElem?_nil, Option.getD_some, Option.getD_none, Option.map_some, Option.map_none, if_true, if_false, true_and, and_true, reduceIte, Nat.reduceEqDiff, Nat.reduceAdd, Nat.reduceLeDiff, dfrE, List.map_cons, List.map_nil, resOf, allSome, packed, reduceCtorEq, hadd_same, List.take_succ_cons, List.take_zero, List.drop_succ_cons, List.drop_zero, List.nil_append, List.append_nil, List.cons_append, Bool.true_eq_false, Bool.false_eq_true, beq_self_eq_true, false_or, or_false, true_or, or_true, not_true_eq_false, not_false_eq_true, ex_bool, true_implies, false_implies, Bool.not_true, Bool.not_false, Int.reduceBEq, Int.reduceEq, Int.reduceLT, Int.reduceLE, Int.reduceNeg, Bool.and_self, Bool.and_true, Bool.true_and, Option.bind_some, hadd_twice, t1, t2, t4, m2, m4]
    refine ⟨fun c => ?_, fun c => ?_⟩
    · have c' : 0 < rest.length := by have := of_decide_eq_true c; omega
      have em : (if (3000 : Int) < (rest.length : Int) then (3000 : Int) else (rest.length : Int)) = ((min rest.length 3000 : Nat) : Int) := by split <;> omega
      simp only [em]
      generalize hk : min rest.length 3000 = k
      rw [if_pos ⟨by omega, by omega⟩]
      simp only [E_skip, E_ops, E_seq, E_cond, E_block, E_exit, E_ret, opsE, stepE, HK.E, PK.ev, RK.ev, AK.ev, callV, Opd.ev, put, upd, wantedE, guardOk, andThen, atBlock, Mir.start, evBin, evBounds, evEq, evMm, evMms, partOf, fillIn, V.cells, V.flat, List.all_cons, List.all_nil, List.length_cons, List.length_nil, List.getElem?_cons_zero, List.getElem?_cons_succ, List.getElem?_nil, Option.getD_some, Option.getD_none, Option.map_some, Option.map_none, if_true, if_false, true_and, and_true, reduceIte, Nat.reduceEqDiff, Nat.reduceAdd, Nat.reduceLeDiff, dfrE, List.map_cons, List.map_nil, resOf, allSome, packed, reduceCtorEq, hadd_same, List.take_succ_cons, List.take_zero, List.drop_succ_cons, List.drop_zero, List.nil_append, List.append_nil, List.cons_append, Bool.true_eq_false, Bool.false_eq_true, beq_self_eq_true, false_or, or_false, true_or, or_true, not_true_eq_false, not_false_eq_true, ex_bool, true_implies, false_implies, Bool.not_true, Bool.not_false, Int.reduceBEq, Int.reduceEq, Int.reduceLT, Int.reduceLE, Int.reduceNeg, Bool.and_self, Bool.and_true, Bool.true_and, Option.bind_some, hadd_twice, Int.toNat_natCast]
      intro b17 h17
      have n2 : b2 ≠ b17 := fun e => by subst e; rw [m2] at h17; cases h17
      have n4 : b4 ≠ b17 := fun e => by subst e; rw [m4] at h17; cases h17
      have hlen : (rest.take k).length = k := by rw [List.length_take]; omega
      refine E.loop AC.mono (fun a1 h1 => ∃ i, i ≤ k ∧ a1.d = [] ∧ a1.t 1 = .str rest ∧ a1.t 2 = .ptr b2 0 ∧ a1.t 4 = .ptr b4 0 ∧ a1.t 5 = .int .i64 k ∧ a1.t 17 = .sl b17 0 1 k ∧ a1.t 18 = .int .i64 k ∧ a1.t 19 = .int .i64 i ∧
        h1 b2 = some (.cells [.int .u32 (sa (sa a dn % 65521) (rest.take i) : Nat), .int .u32 (sb (sa a dn % 65521) (sb a b dn % 65521) (rest.take i) : Nat)] false) ∧ h1 b4 = some (.cells [.int .u32 0, .int .u32 0] false) ∧ h1 b17 = some (.cells (bytesIn (rest.take k)) false) ∧ Sub h h1)
        (fun a1 _ => match a1.t 19 with | .int _ i => (k - i).toNat | _ => 0) ?_ ?_
      · refine ⟨0, Nat.zero_le _, rfl, t1, t2, t4, rfl, ?_, ?_, rfl, ?_, ?_, hadd_same, Sub.put hsub (hsub.none h17)⟩
        · show V.sl _ _ _ _ = _; rw [hlen]
        · show V.int _ _ = _; rw [hlen]
        · rw [hadd_ne n2, m2]; rfl
        · rw [hadd_ne n4, m4]
      · rintro ⟨t', d'⟩ h1 ⟨i, hik, hd', u1, u2, u4, u5, u17, u18, u19, w2, w4, w17, hsub1⟩
        simp only at hd' u1 u2 u4 u5 u17 u18 u19
        subst hd'
        simp only [E_skip, E_ops, E_seq, E_cond, E_block, E_exit, E_ret, opsE, stepE, HK.E, PK.ev, RK.ev, AK.ev, callV, Opd.ev, put, upd, wantedE, guardOk, andThen, atBlock, Mir.start, evBin, evBounds, evEq, evMm, evMms, partOf, fillIn, V.cells, V.flat, List.all_cons, List.all_nil, List.length_cons, List.length_nil, List.getElem?_cons_zero, List.getElem?_cons_succ, List.getElem?_nil, Option.getD_some, Option.getD_none, Option.map_some, Option.map_none, if_true, if_false, true_and, and_true, reduceIte, Nat.reduceEqDiff, Nat.reduceAdd, Nat.reduceLeDiff, dfrE, List.map_cons, List.map_nil, resOf, allSome, packed, reduceCtorEq, hadd_same, List.take_succ_cons, List.take_zero, List.drop_succ_cons, List.drop_zero, List.nil_append, List.append_nil, List.cons_append, Bool.true_eq_false, Bool.false_eq_true, beq_self_eq_true, false_or, or_false, true_or, or_true, not_true_eq_false, not_false_eq_true, ex_bool, true_implies, false_implies, Bool.not_true, Bool.not_false, Int.reduceBEq, Int.reduceEq, Int.reduceLT, Int.reduceLE, Int.reduceNeg, Bool.and_self, Bool.and_true, Bool.true_and, Option.bind_some, hadd_twice, u1, u2, u4, u5, u17, u18, u19, w2, w4, w17]
        refine ⟨fun e => ?_, fun e => ?_⟩
        · have hi : i < k := by have := of_decide_eq_true e; omega
          obtain ⟨x, hx⟩ : ∃ x, rest[i]? = some x := ⟨rest[i]'(by omega), List.getElem?_eq_getElem (by omega)⟩
          have hg : (bytesIn (rest.take k))[i]? = some (.int .u8 x.toNat) := by
            rw [bytesIn, List.getElem?_map, List.getElem?_take_of_lt hi, hx]; rfl
          have htk : rest.take (i + 1) = rest.take i ++ [x] := by rw [List.take_add_one, hx]; rfl
          have hA : sa (sa a dn % 65521) (rest.take (i + 1)) = sa (sa a dn % 65521) (rest.take i) + x.toNat := by rw [htk, sa_append]; rfl
          have hB : sb (sa a dn % 65521) (sb a b dn % 65521) (rest.take (i + 1)) = sb (sa a dn % 65521) (sb a b dn % 65521) (rest.take i) + (sa (sa a dn % 65521) (rest.take i) + x.toNat) := by rw [htk, sb_append]; rfl
          have bA := sa_le (sa a dn % 65521) (rest.take (i + 1))
          have bB := sb_le (sa a dn % 65521) (sb a b dn % 65521) (rest.take (i + 1))
          have hl : (rest.take (i + 1)).length = i + 1 := by rw [List.length_take]; omega
          rw [hl] at bA bB
          have bB' : (i + 1) * (sa a dn % 65521 + (i + 1) * 255) ≤ 3000 * (65520 + 3000 * 255) := Nat.mul_le_mul (by omega) (by omega)
          have hx256 := x.toNat_lt
          have m1 := Nat.mod_lt (sa a dn) (show 0 < 65521 by decide)
          have m2' := Nat.mod_lt (sb a b dn) (show 0 < 65521 by decide)
          rw [hA] at bA
          rw [hB] at bB
          have e1 : IntKind.u32.wrap ((x.toNat : Nat) : Int) = x.toNat := wrap_u32_id (by omega) (by omega)
          have e2 : IntKind.u32.wrap (((sa (sa a dn % 65521) (rest.take i) : Nat) : Int) + (x.toNat : Nat)) = ((sa (sa a dn % 65521) (rest.take (i + 1)) : Nat) : Int) := by rw [hA, wrap_u32_id (by omega) (by omega)]; omega
          have e3 : IntKind.u32.wrap (((sb (sa a dn % 65521) (sb a b dn % 65521) (rest.take i) : Nat) : Int) + ((sa (sa a dn % 65521) (rest.take (i + 1)) : Nat) : Int)) = ((sb (sa a dn % 65521) (sb a b dn % 65521) (rest.take (i + 1)) : Nat) : Int) := by rw [hA, hB, wrap_u32_id (by omega) (by omega)]; omega
          have e4 : IntKind.i64.wrap ((i : Int) + 1) = ((i + 1 : Nat) : Int) := by rw [wrap_i64_id (by omega) (by omega)]; omega
          rw [if_pos ⟨by omega, by omega⟩]
          simp only [E_skip, E_ops, E_seq, E_cond, E_block, E_exit, E_ret, opsE, stepE, HK.E, PK.ev, RK.ev, AK.ev, callV, Opd.ev, put, upd, wantedE, guardOk, andThen, atBlock, Mir.start, evBin, evBounds, evEq, evMm, evMms, partOf, fillIn, V.cells, V.flat, List.all_cons, List.all_nil, List.length_cons, List.length_nil, List.getElem?_cons_zero, List.getElem?_cons_succ, List.getElem?_nil, Option.getD_some, Option.getD_none, Option.map_some, Option.map_none, if_true, if_false, true_and, and_true, reduceIte, Nat.reduceEqDiff, Nat.reduceAdd, Nat.reduceLeDiff, dfrE, List.map_cons, List.map_nil, resOf, allSome, packed, reduceCtorEq, hadd_same, List.take_succ_cons, List.take_zero, List.drop_succ_cons, List.drop_zero, List.nil_append, List.append_nil, List.cons_append, Bool.true_eq_false, Bool.false_eq_true, beq_self_eq_true, false_or, or_false, true_or, or_true, not_true_eq_false, not_false_eq_true, ex_bool, true_implies, false_implies, Bool.not_true, Bool.not_false, Int.reduceBEq, Int.reduceEq, Int.reduceLT, Int.reduceLE, Int.reduceNeg, Bool.and_self, Bool.and_true, Bool.true_and, Option.bind_some, hadd_twice, w17, Nat.zero_add, Nat.mul_one, Int.toNat_natCast, hg, e1, e2, e3, e4]
          refine ⟨⟨i + 1, hi, rfl, rfl, ?_, ?_, ?_⟩, ?_⟩
          · rw [hadd_ne h4.1, w4]
          · rw [hadd_ne (Ne.symm n2), w17]
          · exact Sub.put hsub1 h2
          · show (((k : Int) - ((i + 1 : Nat) : Int)).toNat) < ((k : Int) - (i : Int)).toNat
            omega
        · have hi : i = k := by have := of_decide_eq_false e; omega
          subst hi
          have tm : ∀ x : Nat, Int.tmod (x : Int) 65521 = ((x % 65521 : Nat) : Int) := fun x => by rw [Int.tmod_eq_emod_of_nonneg (by omega)]; omega
          have f1 : sa (sa a dn % 65521) (rest.take i) % 65521 = sa a (dn ++ rest.take i) % 65521 := by rw [sa_mod, sa_append]
          have f2 : sb (sa a dn % 65521) (sb a b dn % 65521) (rest.take i) % 65521 = sb a b (dn ++ rest.take i) % 65521 := by rw [sb_mod, sb_append]
          simp only [E_skip, E_ops, E_seq, E_cond, E_block, E_exit, E_ret, opsE, stepE, HK.E, PK.ev, RK.ev, AK.ev, callV, Opd.ev, put, upd, wantedE, guardOk, andThen, atBlock, Mir.start, evBin, evBounds, evEq, evMm, evMms, partOf, fillIn, V.cells, V.flat, List.all_cons, List.all_nil, List.length_cons, List.length_nil, List.getElem?_cons_zero, List.getElem?_cons_succ, List.getElem?_nil, Option.getD_some, Option.getD_none, Option.map_some, Option.map_none, if_true, if_false, true_and, and_true, reduceIte, Nat.reduceEqDiff, Nat.reduceAdd, Nat.reduceLeDiff, dfrE, List.map_cons, List.map_nil, resOf, allSome, packed, reduceCtorEq, hadd_same, List.take_succ_cons, List.take_zero, List.drop_succ_cons, List.drop_zero, List.nil_append, List.append_nil, List.cons_append, Bool.true_eq_false, Bool.false_eq_true, beq_self_eq_true, false_or, or_false, true_or, or_true, not_true_eq_false, not_false_eq_true, ex_bool, true_implies, false_implies, Bool.not_true, Bool.not_false, Int.reduceBEq, Int.reduceEq, Int.reduceLT, Int.reduceLE, Int.reduceNeg, Bool.and_self, Bool.and_true, Bool.true_and, Option.bind_some, hadd_twice, tm, f1, f2]
          rw [if_pos ⟨by omega, by omega⟩]
          simp only [E_skip, E_ops, E_seq, E_cond, E_block, E_exit, E_ret, opsE, stepE, HK.E, PK.ev, RK.ev, AK.ev, callV, Opd.ev, put, upd, wantedE, guardOk, andThen, atBlock, Mir.start, evBin, evBounds, evEq, evMm, evMms, partOf, fillIn, V.cells, V.flat, List.all_cons, List.all_nil, List.length_cons, List.length_nil, List.getElem?_cons_zero, List.getElem?_cons_succ, List.getElem?_nil, Option.getD_some, Option.getD_none, Option.map_some, Option.map_none, if_true, if_false, true_and, and_true, reduceIte, Nat.reduceEqDiff, Nat.reduceAdd, Nat.reduceLeDiff, dfrE, List.map_cons, List.map_nil, resOf, allSome, packed, reduceCtorEq, hadd_same, List.take_succ_cons, List.take_zero, List.drop_succ_cons, List.drop_zero, List.nil_append, List.append_nil, List.cons_append, Bool.true_eq_false, Bool.false_eq_true, beq_self_eq_true, false_or, or_false, true_or, or_true, not_true_eq_false, not_false_eq_true, ex_bool, true_implies, false_implies, Bool.not_true, Bool.not_false, Int.reduceBEq, Int.reduceEq, Int.reduceLT, Int.reduceLE, Int.reduceNeg, Bool.and_self, Bool.and_true, Bool.true_and, Option.bind_some, hadd_twice, Int.toNat_natCast, List.take_length]
          refine ⟨⟨dn ++ rest.take i, rest.drop i, ?_, rfl, rfl, ?_, ?_⟩, ?_⟩
          · rw [List.append_assoc, List.take_append_drop]; exact hs
          · rw [hadd_ne h4.1, w4]
          · exact Sub.put hsub1 h2
          · show (rest.drop i).length < rest.length
            rw [List.length_drop]
            show rest.length - i < rest.length
            omega
    · have c' : rest = [] := by
        have := of_decide_eq_false c
        exact List.length_eq_zero_iff.1 (by omega)
      subst c'
      rw [List.append_nil] at hs
      subst hs
      exact ⟨_, h, rfl, Sub.put hsub h4.2, hq⟩
theorem of_ac {h : H} {Q : V → H → Prop} (s : List UInt8) (hq : Q (.int .u32 (sumOf s : Nat)) h) : AC pg (.fn 13) [.str s] h Q := by
  refine AC.fn (g := g13) rfl (by simp only [List.length_cons, List.length_nil, g13]; decide) ?_
  simp only [g13, E_skip, E_ops, E_seq, E_cond, E_block, E_exit, E_ret, opsE, stepE, HK.E, PK.ev, RK.ev, AK.ev, callV, Opd.ev, put, upd, wantedE, guardOk, andThen, atBlock, Mir.start, evBin, evBounds, evEq, evMm, evMms, partOf, fillIn, V.cells, V.flat, List.all_cons, List.all_nil, List.length_cons, List.length_nil, List.getElem?_cons_zero, List.getElem?_cons_succ, List.getElem?_nil, Option.getD_some, Option.getD_none, Option.map_some, Option.map_none, if_true, if_false, true_and, and_true, reduceIte, Nat.reduceEqDiff, Nat.reduceAdd, Nat.reduceLeDiff, dfrE, List.map_cons, List.map_nil, resOf, allSome, packed, reduceCtorEq, hadd_same, List.take_succ_cons, List.take_zero, List.drop_succ_cons, List.drop_zero, List.nil_append, List.append_nil, List.cons_append, Bool.true_eq_false, Bool.false_eq_true, beq_self_eq_true, false_or, or_false, true_or, or_true, not_true_eq_false, not_false_eq_true, ex_bool, true_implies, false_implies, Bool.not_true, Bool.not_false, Int.reduceBEq, Int.reduceEq, Int.reduceLT, Int.reduceLE, Int.reduceNeg, Bool.and_self, Bool.and_true, Bool.true_and, Option.bind_some, hadd_twice]
  refine new_ac ?_
  try simp only [E_skip, E_ops, E_seq, E_cond, E_block, E_exit, E_ret, opsE, stepE, HK.E, PK.ev, RK.ev, AK.ev, callV, Opd.ev, put, upd, wantedE, guardOk, andThen, atBlock, Mir.start, evBin, evBounds, evEq, evMm, evMms, partOf, fillIn, V.cells, V.flat, List.all_cons, List.all_nil, List.length_cons, List.length_nil, List.getElem?_cons_zero, List.getElem?_cons_succ, List.getElem?_nil, Option.getD_some, Option.getD_none, Option.map_some, Option.map_none, if_true, if_false, true_and, and_true, reduceIte, Nat.reduceEqDiff, Nat.reduceAdd, Nat.reduceLeDiff, dfrE, List.map_cons, List.map_nil, resOf, allSome, packed, reduceCtorEq, hadd_same, List.take_succ_cons, List.take_zero, List.drop_succ_cons, List.drop_zero, List.nil_append, List.append_nil, List.cons_append, Bool.true_eq_false, Bool.false_eq_true, beq_self_eq_true, false_or, or_false, true_or, or_true, not_true_eq_false, not_false_eq_true, ex_bool, true_implies, false_implies, Bool.not_true, Bool.not_false, Int.reduceBEq, Int.reduceEq, Int.reduceLT, Int.reduceLE, Int.reduceNeg, Bool.and_self, Bool.and_true, Bool.true_and, Option.bind_some, hadd_twice]
  refine add_ac 1 0 (by decide) (by decide) s ?_
  try simp only [E_skip, E_ops, E_seq, E_cond, E_block, E_exit, E_ret, opsE, stepE, HK.E, PK.ev, RK.ev, AK.ev, callV, Opd.ev, put, upd, wantedE, guardOk, andThen, atBlock, Mir.start, evBin, evBounds, evEq, evMm, evMms, partOf, fillIn, V.cells, V.flat, List.all_cons, List.all_nil, List.length_cons, List.length_nil, List.getElem?_cons_zero, List.getElem?_cons_succ, List.getElem?_nil, Option.getD_some, Option.getD_none, Option.map_some, Option.map_none, if_true, if_false, true_and, and_true, reduceIte, Nat.reduceEqDiff, Nat.reduceAdd, Nat.reduceLeDiff, dfrE, List.map_cons, List.map_nil, resOf, allSome, packed, reduceCtorEq, hadd_same, List.take_succ_cons, List.take_zero, List.drop_succ_cons, List.drop_zero, List.nil_append, List.append_nil, List.cons_append, Bool.true_eq_false, Bool.false_eq_true, beq_self_eq_true, false_or, or_false, true_or, or_true, not_true_eq_false, not_false_eq_true, ex_bool, true_implies, false_implies, Bool.not_true, Bool.not_false, Int.reduceBEq, Int.reduceEq, Int.reduceLT, Int.reduceLE, Int.reduceNeg, Bool.and_self, Bool.and_true, Bool.true_and, Option.bind_some, hadd_twice]
  refine value_ac _ _ (Nat.mod_lt _ (by decide)) (Nat.mod_lt _ (by decide)) ?_
  try simp only [E_skip, E_ops, E_seq, E_cond, E_block, E_exit, E_ret, opsE, stepE, HK.E, PK.ev, RK.ev, AK.ev, callV, Opd.ev, put, upd, wantedE, guardOk, andThen, atBlock, Mir.start, evBin, evBounds, evEq, evMm, evMms, partOf, fillIn, V.cells, V.flat, List.all_cons, List.all_nil, List.length_cons, List.length_nil, List.getElem?_cons_zero, List.getElem?_cons_succ, List.getElem?_nil, Option.getD_some, Option.getD_none, Option.map_some, Option.map_none, if_true, if_false, true_and, and_true, reduceIte, Nat.reduceEqDiff, Nat.reduceAdd, Nat.reduceLeDiff, dfrE, List.map_cons, List.map_nil, resOf, allSome, packed, reduceCtorEq, hadd_same, List.take_succ_cons, List.take_zero, List.drop_succ_cons, List.drop_zero, List.nil_append, List.append_nil, List.cons_append, Bool.true_eq_false, Bool.false_eq_true, beq_self_eq_true, false_or, or_false, true_or, or_true, not_true_eq_false, not_false_eq_true, ex_bool, true_implies, false_implies, Bool.not_true, Bool.not_false, Int.reduceBEq, Int.reduceEq, Int.reduceLT, Int.reduceLE, Int.reduceNeg, Bool.and_self, Bool.and_true, Bool.true_and, Option.bind_some, hadd_twice]
  exact ⟨_, h, rfl, Sub.refl, hq⟩
end Go.Proofs.Ytfenkmaanbgalaa
