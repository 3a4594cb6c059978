/- Walks that serve several seats: the sums. -/
import Derived.Test.YtijipnkdabdioabGreatDoorP
import Derived.Test.YtijipnkdabdioabGreatDoorSumMath
import Derived.Test.YtijipnkdabdioabGreatDoorHexMath
import Derived.Test.YtijipnkdabdioabGreatDoorMir31
set_option linter.unusedSimpArgs false
set_option linter.unusedVariables false
namespace Go.Proofs.YtijipnkdabdioabGreatDoor
open Mir SumMath
theorem sumNew_ac {h : H} {Q : V → H → Prop} (hq : Q (.agg [.int .u32 1, .int .u32 0]) h) : AC pg (.fn 47) [] h Q := by
  refine AC.fn (g := g47) rfl (by simp only [List.length_cons, List.length_nil, g47]; decide) ?_
  simp only [g47, E_skip, E_ops, E_seq, E_cond, E_block, E_exit, E_ret, opsE, stepE, HK.E, PK.ev, RK.ev, AK.ev, AK.by, Nat.reduceBEq, callV, Opd.ev, put, upd, wantedE, guardOk, andThen, atBlock, Mir.start, evBin, evBounds, evEq, evMm, evMms, partOf, fillIn, V.cells, V.flat, List.all_cons, List.all_nil, List.length_cons, List.length_nil, List.getElem?_cons_zero, List.getElem?_cons_succ, List.getElem?_nil, Option.getD_some, Option.getD_none, Option.map_some, Option.map_none, if_true, if_false, true_and, and_true, reduceIte, Nat.reduceEqDiff, Nat.reduceAdd, Nat.reduceLeDiff, dfrE, List.map_cons, List.map_nil, resOf, allSome, packed, reduceCtorEq, hadd_same, List.take_succ_cons, List.take_zero, List.drop_succ_cons, List.drop_zero, List.nil_append, List.append_nil, List.cons_append, Bool.true_eq_false, Bool.false_eq_true, beq_self_eq_true, false_or, or_false, true_or, or_true, not_true_eq_false, not_false_eq_true, ex_bool, true_implies, false_implies, Bool.not_true, Bool.not_false, Int.reduceBEq, Int.reduceEq, Int.reduceLT, Int.reduceLE, Int.reduceNeg, Bool.and_self, Bool.and_true, Bool.true_and, Option.bind_some, hadd_twice]
  intro b hb
  try simp only [E_skip, E_ops, E_seq, E_cond, E_block, E_exit, E_ret, opsE, stepE, HK.E, PK.ev, RK.ev, AK.ev, AK.by, Nat.reduceBEq, callV, Opd.ev, put, upd, wantedE, guardOk, andThen, atBlock, Mir.start, evBin, evBounds, evEq, evMm, evMms, partOf, fillIn, V.cells, V.flat, List.all_cons, List.all_nil, List.length_cons, List.length_nil, List.getElem?_cons_zero, List.getElem?_cons_succ, List.getElem?_nil, Option.getD_some, Option.getD_none, Option.map_some, Option.map_none, if_true, if_false, true_and, and_true, reduceIte, Nat.reduceEqDiff, Nat.reduceAdd, Nat.reduceLeDiff, dfrE, List.map_cons, List.map_nil, resOf, allSome, packed, reduceCtorEq, hadd_same, List.take_succ_cons, List.take_zero, List.drop_succ_cons, List.drop_zero, List.nil_append, List.append_nil, List.cons_append, Bool.true_eq_false, Bool.false_eq_true, beq_self_eq_true, false_or, or_false, true_or, or_true, not_true_eq_false, not_false_eq_true, ex_bool, true_implies, false_implies, Bool.not_true, Bool.not_false, Int.reduceBEq, Int.reduceEq, Int.reduceLT, Int.reduceLE, Int.reduceNeg, Bool.and_self, Bool.and_true, Bool.true_and, Option.bind_some, hadd_twice]
  exact ⟨_, h, rfl, Sub.put Sub.refl hb, hq⟩
theorem sumValue_ac {h : H} {Q : V → H → Prop} (a b : Nat) (ha : a < 65521) (hb : b < 65521) (hq : Q (.int .u32 (b * 65536 + a : Nat)) h) : AC pg (.fn 49) [.agg [.int .u32 a, .int .u32 b]] h Q := by
  refine AC.fn (g := g49) rfl (by simp only [List.length_cons, List.length_nil, g49]; decide) ?_
  simp only [g49, E_skip, E_ops, E_seq, E_cond, E_block, E_exit, E_ret, opsE, stepE, HK.E, PK.ev, RK.ev, AK.ev, AK.by, Nat.reduceBEq, callV, Opd.ev, put, upd, wantedE, guardOk, andThen, atBlock, Mir.start, evBin, evBounds, evEq, evMm, evMms, partOf, fillIn, V.cells, V.flat, List.all_cons, List.all_nil, List.length_cons, List.length_nil, List.getElem?_cons_zero, List.getElem?_cons_succ, List.getElem?_nil, Option.getD_some, Option.getD_none, Option.map_some, Option.map_none, if_true, if_false, true_and, and_true, reduceIte, Nat.reduceEqDiff, Nat.reduceAdd, Nat.reduceLeDiff, dfrE, List.map_cons, List.map_nil, resOf, allSome, packed, reduceCtorEq, hadd_same, List.take_succ_cons, List.take_zero, List.drop_succ_cons, List.drop_zero, List.nil_append, List.append_nil, List.cons_append, Bool.true_eq_false, Bool.false_eq_true, beq_self_eq_true, false_or, or_false, true_or, or_true, not_true_eq_false, not_false_eq_true, ex_bool, true_implies, false_implies, Bool.not_true, Bool.not_false, Int.reduceBEq, Int.reduceEq, Int.reduceLT, Int.reduceLE, Int.reduceNeg, Bool.and_self, Bool.and_true, Bool.true_and, Option.bind_some, hadd_twice]
  intro p hp
  try simp only [E_skip, E_ops, E_seq, E_cond, E_block, E_exit, E_ret, opsE, stepE, HK.E, PK.ev, RK.ev, AK.ev, AK.by, Nat.reduceBEq, callV, Opd.ev, put, upd, wantedE, guardOk, andThen, atBlock, Mir.start, evBin, evBounds, evEq, evMm, evMms, partOf, fillIn, V.cells, V.flat, List.all_cons, List.all_nil, List.length_cons, List.length_nil, List.getElem?_cons_zero, List.getElem?_cons_succ, List.getElem?_nil, Option.getD_some, Option.getD_none, Option.map_some, Option.map_none, if_true, if_false, true_and, and_true, reduceIte, Nat.reduceEqDiff, Nat.reduceAdd, Nat.reduceLeDiff, dfrE, List.map_cons, List.map_nil, resOf, allSome, packed, reduceCtorEq, hadd_same, List.take_succ_cons, List.take_zero, List.drop_succ_cons, List.drop_zero, List.nil_append, List.append_nil, List.cons_append, Bool.true_eq_false, Bool.false_eq_true, beq_self_eq_true, false_or, or_false, true_or, or_true, not_true_eq_false, not_false_eq_true, ex_bool, true_implies, false_implies, Bool.not_true, Bool.not_false, Int.reduceBEq, Int.reduceEq, Int.reduceLT, Int.reduceLE, Int.reduceNeg, Bool.and_self, Bool.and_true, Bool.true_and, Option.bind_some, hadd_twice]
  refine ⟨_, h, rfl, Sub.put Sub.refl hp, ?_⟩
  have e1 : IntKind.u32.wrap ((b : Int) * 2 ^ min (16 : Int).toNat IntKind.u32.bits) = ((b * 65536 : Nat) : Int) := by
    rw [show ((2 : Int) ^ min (16 : Int).toNat IntKind.u32.bits) = 65536 from rfl, wrap_u32_id (by omega) (by omega)]; omega
  rw [e1]
  have e2 := or_halves (a := a) (b := b) (by omega) (by omega)
  rw [show IntKind.u32.bits = 32 from rfl, e2, wrap_u32_id (by omega) (by omega)]
  exact hq
def lenOf : V → Nat
  | .str s => s.length
  | _ => 0
theorem sumAdd_ac {h : H} {Q : V → H → Prop} (a b : Nat) (ha : a < 65521) (hb : b < 65521) (s : List UInt8) (hq : Q (.agg [.int .u32 (sa a s % 65521 : Nat), .int .u32 (sb a b s % 65521 : Nat)]) h) :
    AC pg (.fn 48) [.agg [.int .u32 a, .int .u32 b], .str s] h Q := by
  refine AC.fn (g := g48) rfl (by simp only [List.length_cons, List.length_nil, g48]; decide) ?_
  simp only [g48, E_skip, E_ops, E_seq, E_cond, E_block, E_exit, E_ret, opsE, stepE, HK.E, PK.ev, RK.ev, AK.ev, AK.by, Nat.reduceBEq, callV, Opd.ev, put, upd, wantedE, guardOk, andThen, atBlock, Mir.start, evBin, evBounds, evEq, evMm, evMms, partOf, fillIn, V.cells, V.flat, List.all_cons, List.all_nil, List.length_cons, List.length_nil, List.getElem?_cons_zero, List.getElem?_cons_succ, List.getElem?_nil, Option.getD_some, Option.getD_none, Option.map_some, Option.map_none, if_true, if_false, true_and, and_true, reduceIte, Nat.reduceEqDiff, Nat.reduceAdd, Nat.reduceLeDiff, dfrE, List.map_cons, List.map_nil, resOf, allSome, packed, reduceCtorEq, hadd_same, List.take_succ_cons, List.take_zero, List.drop_succ_cons, List.drop_zero, List.nil_append, List.append_nil, List.cons_append, Bool.true_eq_false, Bool.false_eq_true, beq_self_eq_true, false_or, or_false, true_or, or_true, not_true_eq_false, not_false_eq_true, ex_bool, true_implies, false_implies, Bool.not_true, Bool.not_false, Int.reduceBEq, Int.reduceEq, Int.reduceLT, Int.reduceLE, Int.reduceNeg, Bool.and_self, Bool.and_true, Bool.true_and, Option.bind_some, hadd_twice]
  intro b2 h2 b4 h4
  rw [hadd_none] at h4
  try simp only [E_skip, E_ops, E_seq, E_cond, E_block, E_exit, E_ret, opsE, stepE, HK.E, PK.ev, RK.ev, AK.ev, AK.by, Nat.reduceBEq, callV, Opd.ev, put, upd, wantedE, guardOk, andThen, atBlock, Mir.start, evBin, evBounds, evEq, evMm, evMms, partOf, fillIn, V.cells, V.flat, List.all_cons, List.all_nil, List.length_cons, List.length_nil, List.getElem?_cons_zero, List.getElem?_cons_succ, List.getElem?_nil, Option.getD_some, Option.getD_none, Option.map_some, Option.map_none, if_true, if_false, true_and, and_true, reduceIte, Nat.reduceEqDiff, Nat.reduceAdd, Nat.reduceLeDiff, dfrE, List.map_cons, List.map_nil, resOf, allSome, packed, reduceCtorEq, hadd_same, List.take_succ_cons, List.take_zero, List.drop_succ_cons, List.drop_zero, List.nil_append, List.append_nil, List.cons_append, Bool.true_eq_false, Bool.false_eq_true, beq_self_eq_true, false_or, or_false, true_or, or_true, not_true_eq_false, not_false_eq_true, ex_bool, true_implies, false_implies, Bool.not_true, Bool.not_false, Int.reduceBEq, Int.reduceEq, Int.reduceLT, Int.reduceLE, Int.reduceNeg, Bool.and_self, Bool.and_true, Bool.true_and, Option.bind_some, hadd_twice]
  refine E.loop AC.mono (fun a' h' => ∃ dn rest, s = dn ++ rest ∧ a'.d = [] ∧ a'.t 1 = .str rest ∧ a'.t 2 = .ptr b2 0 ∧ a'.t 4 = .ptr b4 0 ∧
    h' b2 = some (.cells [.int .u32 (sa a dn % 65521 : Nat), .int .u32 (sb a b dn % 65521 : Nat)] false) ∧ h' b4 = some (.cells [.int .u32 0, .int .u32 0] false) ∧ Sub h h') (fun a' _ => lenOf (a'.t 1)) ?_ ?_
  · refine ⟨[], s, rfl, rfl, rfl, rfl, rfl, ?_, hadd_same, Sub.put (Sub.put Sub.refl h2) h4.2⟩
    rw [hadd_ne (Ne.symm h4.1), hadd_same]
    simp only [sa, sb, Nat.mod_eq_of_lt ha, Nat.mod_eq_of_lt hb]
  · rintro ⟨t, d⟩ h' ⟨dn, rest, hs, hd, t1, t2, t4, m2, m4, hsub⟩
    simp only at hd t1 t2 t4
    subst hd
    simp only [E_skip, E_ops, E_seq, E_cond, E_block, E_exit, E_ret, opsE, stepE, HK.E, PK.ev, RK.ev, AK.ev, AK.by, Nat.reduceBEq, callV, Opd.ev, put, upd, wantedE, guardOk, andThen, atBlock, Mir.start, evBin, evBounds, evEq, evMm, evMms, partOf, fillIn, V.cells, V.flat, List.all_cons, List.all_nil, List.length_cons, List.length_nil, List.getElem?_cons_zero, List.getElem?_cons_succ, List.getElem?_nil, Option.getD_some, Option.getD_none, Option.map_some, Option.map_none, if_true, if_false, true_and, and_true, reduceIte, Nat.reduceEqDiff, Nat.reduceAdd, Nat.reduceLeDiff, dfrE, List.map_cons, List.map_nil, resOf, allSome, packed, reduceCtorEq, hadd_same, List.take_succ_cons, List.take_zero, List.drop_succ_cons, List.drop_zero, List.nil_append, List.append_nil, List.cons_append, Bool.true_eq_false, Bool.false_eq_true, beq_self_eq_true, false_or, or_false, true_or, or_true, not_true_eq_false, not_false_eq_true, ex_bool, true_implies, false_implies, Bool.not_true, Bool.not_false, Int.reduceBEq, Int.reduceEq, Int.reduceLT, Int.reduceLE, Int.reduceNeg, Bool.and_self, Bool.and_true, Bool.true_and, Option.bind_some, hadd_twice, t1, t2, t4, m2, m4]
    refine ⟨fun c => ?_, fun c => ?_⟩
    · have c' : 0 < rest.length := by have := of_decide_eq_true c; omega
      have em : (if (3000 : Int) < (rest.length : Int) then (3000 : Int) else (rest.length : Int)) = ((min rest.length 3000 : Nat) : Int) := by split <;> omega
      simp only [em]
      generalize hk : min rest.length 3000 = k
      rw [if_pos ⟨by omega, by omega⟩]
      simp only [E_skip, E_ops, E_seq, E_cond, E_block, E_exit, E_ret, opsE, stepE, HK.E, PK.ev, RK.ev, AK.ev, AK.by, Nat.reduceBEq, callV, Opd.ev, put, upd, wantedE, guardOk, andThen, atBlock, Mir.start, evBin, evBounds, evEq, evMm, evMms, partOf, fillIn, V.cells, V.flat, List.all_cons, List.all_nil, List.length_cons, List.length_nil, List.getElem?_cons_zero, List.getElem?_cons_succ, List.getElem?_nil, Option.getD_some, Option.getD_none, Option.map_some, Option.map_none, if_true, if_false, true_and, and_true, reduceIte, Nat.reduceEqDiff, Nat.reduceAdd, Nat.reduceLeDiff, dfrE, List.map_cons, List.map_nil, resOf, allSome, packed, reduceCtorEq, hadd_same, List.take_succ_cons, List.take_zero, List.drop_succ_cons, List.drop_zero, List.nil_append, List.append_nil, List.cons_append, Bool.true_eq_false, Bool.false_eq_true, beq_self_eq_true, false_or, or_false, true_or, or_true, not_true_eq_false, not_false_eq_true, ex_bool, true_implies, false_implies, Bool.not_true, Bool.not_false, Int.reduceBEq, Int.reduceEq, Int.reduceLT, Int.reduceLE, Int.reduceNeg, Bool.and_self, Bool.and_true, Bool.true_and, Option.bind_some, hadd_twice, Int.toNat_natCast]
      intro b17 h17
      have n2 : b2 ≠ b17 := fun e => by subst e; rw [m2] at h17; cases h17
      have n4 : b4 ≠ b17 := fun e => by subst e; rw [m4] at h17; cases h17
      have hlen : (rest.take k).length = k := by rw [List.length_take]; omega
      refine E.loop AC.mono (fun a1 h1 => ∃ i, i ≤ k ∧ a1.d = [] ∧ a1.t 1 = .str rest ∧ a1.t 2 = .ptr b2 0 ∧ a1.t 4 = .ptr b4 0 ∧ a1.t 5 = .int .i64 k ∧ a1.t 17 = .sl b17 0 1 k ∧ a1.t 18 = .int .i64 k ∧ a1.t 19 = .int .i64 i ∧
        h1 b2 = some (.cells [.int .u32 (sa (sa a dn % 65521) (rest.take i) : Nat), .int .u32 (sb (sa a dn % 65521) (sb a b dn % 65521) (rest.take i) : Nat)] false) ∧ h1 b4 = some (.cells [.int .u32 0, .int .u32 0] false) ∧ h1 b17 = some (.cells (bytesIn (rest.take k)) false) ∧ Sub h h1)
        (fun a1 _ => match a1.t 19 with | .int _ i => (k - i).toNat | _ => 0) ?_ ?_
      · refine ⟨0, Nat.zero_le _, rfl, t1, t2, t4, rfl, ?_, ?_, rfl, ?_, ?_, hadd_same, Sub.put hsub (hsub.none h17)⟩
        · show V.sl _ _ _ _ = _; rw [hlen]
        · show V.int _ _ = _; rw [hlen]
        · rw [hadd_ne n2, m2]; rfl
        · rw [hadd_ne n4, m4]
      · rintro ⟨t', d'⟩ h1 ⟨i, hik, hd', u1, u2, u4, u5, u17, u18, u19, w2, w4, w17, hsub1⟩
        simp only at hd' u1 u2 u4 u5 u17 u18 u19
        subst hd'
        simp only [E_skip, E_ops, E_seq, E_cond, E_block, E_exit, E_ret, opsE, stepE, HK.E, PK.ev, RK.ev, AK.ev, AK.by, Nat.reduceBEq, callV, Opd.ev, put, upd, wantedE, guardOk, andThen, atBlock, Mir.start, evBin, evBounds, evEq, evMm, evMms, partOf, fillIn, V.cells, V.flat, List.all_cons, List.all_nil, List.length_cons, List.length_nil, List.getElem?_cons_zero, List.getElem?_cons_succ, List.getElem?_nil, Option.getD_some, Option.getD_none, Option.map_some, Option.map_none, if_true, if_false, true_and, and_true, reduceIte, Nat.reduceEqDiff, Nat.reduceAdd, Nat.reduceLeDiff, dfrE, List.map_cons, List.map_nil, resOf, allSome, packed, reduceCtorEq, hadd_same, List.take_succ_cons, List.take_zero, List.drop_succ_cons, List.drop_zero, List.nil_append, List.append_nil, List.cons_append, Bool.true_eq_false, Bool.false_eq_true, beq_self_eq_true, false_or, or_false, true_or, or_true, not_true_eq_false, not_false_eq_true, ex_bool, true_implies, false_implies, Bool.not_true, Bool.not_false, Int.reduceBEq, Int.reduceEq, Int.reduceLT, Int.reduceLE, Int.reduceNeg, Bool.and_self, Bool.and_true, Bool.true_and, Option.bind_some, hadd_twice, u1, u2, u4, u5, u17, u18, u19, w2, w4, w17]
        refine ⟨fun e => ?_, fun e => ?_⟩
        · have hi : i < k := by have := of_decide_eq_true e; omega
          obtain ⟨x, hx⟩ : ∃ x, rest[i]? = some x := ⟨rest[i]'(by omega), List.getElem?_eq_getElem (by omega)⟩
          have hg : (bytesIn (rest.take k))[i]? = some (.int .u8 x.toNat) := by
            rw [bytesIn, List.getElem?_map, List.getElem?_take_of_lt hi, hx]; rfl
          have htk : rest.take (i + 1) = rest.take i ++ [x] := by rw [List.take_add_one, hx]; rfl
          have hA : sa (sa a dn % 65521) (rest.take (i + 1)) = sa (sa a dn % 65521) (rest.take i) + x.toNat := by rw [htk, sa_append]; rfl
          have hB : sb (sa a dn % 65521) (sb a b dn % 65521) (rest.take (i + 1)) = sb (sa a dn % 65521) (sb a b dn % 65521) (rest.take i) + (sa (sa a dn % 65521) (rest.take i) + x.toNat) := by rw [htk, sb_append]; rfl
          have bA := sa_le (sa a dn % 65521) (rest.take (i + 1))
          have bB := sb_le (sa a dn % 65521) (sb a b dn % 65521) (rest.take (i + 1))
          have hl : (rest.take (i + 1)).length = i + 1 := by rw [List.length_take]; omega
          rw [hl] at bA bB
          have bB' : (i + 1) * (sa a dn % 65521 + (i + 1) * 255) ≤ 3000 * (65520 + 3000 * 255) := Nat.mul_le_mul (by omega) (by omega)
          have hx256 := x.toNat_lt
          have m1 := Nat.mod_lt (sa a dn) (show 0 < 65521 by decide)
          have m2' := Nat.mod_lt (sb a b dn) (show 0 < 65521 by decide)
          rw [hA] at bA
          rw [hB] at bB
          have e1 : IntKind.u32.wrap ((x.toNat : Nat) : Int) = x.toNat := wrap_u32_id (by omega) (by omega)
          have e2 : IntKind.u32.wrap (((sa (sa a dn % 65521) (rest.take i) : Nat) : Int) + (x.toNat : Nat)) = ((sa (sa a dn % 65521) (rest.take (i + 1)) : Nat) : Int) := by rw [hA, wrap_u32_id (by omega) (by omega)]; omega
          have e3 : IntKind.u32.wrap (((sb (sa a dn % 65521) (sb a b dn % 65521) (rest.take i) : Nat) : Int) + ((sa (sa a dn % 65521) (rest.take (i + 1)) : Nat) : Int)) = ((sb (sa a dn % 65521) (sb a b dn % 65521) (rest.take (i + 1)) : Nat) : Int) := by rw [hA, hB, wrap_u32_id (by omega) (by omega)]; omega
          have e4 : IntKind.i64.wrap ((i : Int) + 1) = ((i + 1 : Nat) : Int) := by rw [wrap_i64_id (by omega) (by omega)]; omega
          rw [if_pos ⟨by omega, by omega⟩]
          simp only [E_skip, E_ops, E_seq, E_cond, E_block, E_exit, E_ret, opsE, stepE, HK.E, PK.ev, RK.ev, AK.ev, AK.by, Nat.reduceBEq, callV, Opd.ev, put, upd, wantedE, guardOk, andThen, atBlock, Mir.start, evBin, evBounds, evEq, evMm, evMms, partOf, fillIn, V.cells, V.flat, List.all_cons, List.all_nil, List.length_cons, List.length_nil, List.getElem?_cons_zero, List.getElem?_cons_succ, List.getElem?_nil, Option.getD_some, Option.getD_none, Option.map_some, Option.map_none, if_true, if_false, true_and, and_true, reduceIte, Nat.reduceEqDiff, Nat.reduceAdd, Nat.reduceLeDiff, dfrE, List.map_cons, List.map_nil, resOf, allSome, packed, reduceCtorEq, hadd_same, List.take_succ_cons, List.take_zero, List.drop_succ_cons, List.drop_zero, List.nil_append, List.append_nil, List.cons_append, Bool.true_eq_false, Bool.false_eq_true, beq_self_eq_true, false_or, or_false, true_or, or_true, not_true_eq_false, not_false_eq_true, ex_bool, true_implies, false_implies, Bool.not_true, Bool.not_false, Int.reduceBEq, Int.reduceEq, Int.reduceLT, Int.reduceLE, Int.reduceNeg, Bool.and_self, Bool.and_true, Bool.true_and, Option.bind_some, hadd_twice, w17, Nat.zero_add, Nat.mul_one, Int.toNat_natCast, hg, e1, e2, e3, e4]
          refine ⟨⟨i + 1, hi, rfl, rfl, ?_, ?_, ?_⟩, ?_⟩
          · rw [hadd_ne h4.1, w4]
          · rw [hadd_ne (Ne.symm n2), w17]
          · exact Sub.put hsub1 h2
          · show (((k : Int) - ((i + 1 : Nat) : Int)).toNat) < ((k : Int) - (i : Int)).toNat
            omega
        · have hi : i = k := by have := of_decide_eq_false e; omega
          subst hi
          have tm : ∀ x : Nat, Int.tmod (x : Int) 65521 = ((x % 65521 : Nat) : Int) := fun x => by rw [Int.tmod_eq_emod_of_nonneg (by omega)]; omega
          have f1 : sa (sa a dn % 65521) (rest.take i) % 65521 = sa a (dn ++ rest.take i) % 65521 := by rw [sa_mod, sa_append]
          have f2 : sb (sa a dn % 65521) (sb a b dn % 65521) (rest.take i) % 65521 = sb a b (dn ++ rest.take i) % 65521 := by rw [sb_mod, sb_append]
          simp only [E_skip, E_ops, E_seq, E_cond, E_block, E_exit, E_ret, opsE, stepE, HK.E, PK.ev, RK.ev, AK.ev, AK.by, Nat.reduceBEq, callV, Opd.ev, put, upd, wantedE, guardOk, andThen, atBlock, Mir.start, evBin, evBounds, evEq, evMm, evMms, partOf, fillIn, V.cells, V.flat, List.all_cons, List.all_nil, List.length_cons, List.length_nil, List.getElem?_cons_zero, List.getElem?_cons_succ, List.getElem?_nil, Option.getD_some, Option.getD_none, Option.map_some, Option.map_none, if_true, if_false, true_and, and_true, reduceIte, Nat.reduceEqDiff, Nat.reduceAdd, Nat.reduceLeDiff, dfrE, List.map_cons, List.map_nil, resOf, allSome, packed, reduceCtorEq, hadd_same, List.take_succ_cons, List.take_zero, List.drop_succ_cons, List.drop_zero, List.nil_append, List.append_nil, List.cons_append, Bool.true_eq_false, Bool.false_eq_true, beq_self_eq_true, false_or, or_false, true_or, or_true, not_true_eq_false, not_false_eq_true, ex_bool, true_implies, false_implies, Bool.not_true, Bool.not_false, Int.reduceBEq, Int.reduceEq, Int.reduceLT, Int.reduceLE, Int.reduceNeg, Bool.and_self, Bool.and_true, Bool.true_and, Option.bind_some, hadd_twice, tm, f1, f2]
          rw [if_pos ⟨by omega, by omega⟩]
          simp only [E_skip, E_ops, E_seq, E_cond, E_block, E_exit, E_ret, opsE, stepE, HK.E, PK.ev, RK.ev, AK.ev, AK.by, Nat.reduceBEq, callV, Opd.ev, put, upd, wantedE, guardOk, andThen, atBlock, Mir.start, evBin, evBounds, evEq, evMm, evMms, partOf, fillIn, V.cells, V.flat, List.all_cons, List.all_nil, List.length_cons, List.length_nil, List.getElem?_cons_zero, List.getElem?_cons_succ, List.getElem?_nil, Option.getD_some, Option.getD_none, Option.map_some, Option.map_none, if_true, if_false, true_and, and_true, reduceIte, Nat.reduceEqDiff, Nat.reduceAdd, Nat.reduceLeDiff, dfrE, List.map_cons, List.map_nil, resOf, allSome, packed, reduceCtorEq, hadd_same, List.take_succ_cons, List.take_zero, List.drop_succ_cons, List.drop_zero, List.nil_append, List.append_nil, List.cons_append, Bool.true_eq_false, Bool.false_eq_true, beq_self_eq_true, false_or, or_false, true_or, or_true, not_true_eq_false, not_false_eq_true, ex_bool, true_implies, false_implies, Bool.not_true, Bool.not_false, Int.reduceBEq, Int.reduceEq, Int.reduceLT, Int.reduceLE, Int.reduceNeg, Bool.and_self, Bool.and_true, Bool.true_and, Option.bind_some, hadd_twice, Int.toNat_natCast, List.take_length]
          refine ⟨⟨dn ++ rest.take i, rest.drop i, ?_, rfl, rfl, ?_, ?_⟩, ?_⟩
          · rw [List.append_assoc, List.take_append_drop]; exact hs
          · rw [hadd_ne h4.1, w4]
          · exact Sub.put hsub1 h2
          · show (rest.drop i).length < rest.length
            rw [List.length_drop]
            show rest.length - i < rest.length
            omega
    · have c' : rest = [] := by
        have := of_decide_eq_false c
        exact List.length_eq_zero_iff.1 (by omega)
      subst c'
      rw [List.append_nil] at hs
      subst hs
      exact ⟨_, h, rfl, Sub.put hsub h4.2, hq⟩
theorem sumOf_ac {h : H} {Q : V → H → Prop} (s : List UInt8) (hq : Q (.int .u32 (sumOf s : Nat)) h) : AC pg (.fn 32) [.str s] h Q := by
  refine AC.fn (g := g32) rfl (by simp only [List.length_cons, List.length_nil, g32]; decide) ?_
  simp only [g32, E_skip, E_ops, E_seq, E_cond, E_block, E_exit, E_ret, opsE, stepE, HK.E, PK.ev, RK.ev, AK.ev, AK.by, Nat.reduceBEq, callV, Opd.ev, put, upd, wantedE, guardOk, andThen, atBlock, Mir.start, evBin, evBounds, evEq, evMm, evMms, partOf, fillIn, V.cells, V.flat, List.all_cons, List.all_nil, List.length_cons, List.length_nil, List.getElem?_cons_zero, List.getElem?_cons_succ, List.getElem?_nil, Option.getD_some, Option.getD_none, Option.map_some, Option.map_none, if_true, if_false, true_and, and_true, reduceIte, Nat.reduceEqDiff, Nat.reduceAdd, Nat.reduceLeDiff, dfrE, List.map_cons, List.map_nil, resOf, allSome, packed, reduceCtorEq, hadd_same, List.take_succ_cons, List.take_zero, List.drop_succ_cons, List.drop_zero, List.nil_append, List.append_nil, List.cons_append, Bool.true_eq_false, Bool.false_eq_true, beq_self_eq_true, false_or, or_false, true_or, or_true, not_true_eq_false, not_false_eq_true, ex_bool, true_implies, false_implies, Bool.not_true, Bool.not_false, Int.reduceBEq, Int.reduceEq, Int.reduceLT, Int.reduceLE, Int.reduceNeg, Bool.and_self, Bool.and_true, Bool.true_and, Option.bind_some, hadd_twice]
  refine sumNew_ac ?_
  try simp only [E_skip, E_ops, E_seq, E_cond, E_block, E_exit, E_ret, opsE, stepE, HK.E, PK.ev, RK.ev, AK.ev, AK.by, Nat.reduceBEq, callV, Opd.ev, put, upd, wantedE, guardOk, andThen, atBlock, Mir.start, evBin, evBounds, evEq, evMm, evMms, partOf, fillIn, V.cells, V.flat, List.all_cons, List.all_nil, List.length_cons, List.length_nil, List.getElem?_cons_zero, List.getElem?_cons_succ, List.getElem?_nil, Option.getD_some, Option.getD_none, Option.map_some, Option.map_none, if_true, if_false, true_and, and_true, reduceIte, Nat.reduceEqDiff, Nat.reduceAdd, Nat.reduceLeDiff, dfrE, List.map_cons, List.map_nil, resOf, allSome, packed, reduceCtorEq, hadd_same, List.take_succ_cons, List.take_zero, List.drop_succ_cons, List.drop_zero, List.nil_append, List.append_nil, List.cons_append, Bool.true_eq_false, Bool.false_eq_true, beq_self_eq_true, false_or, or_false, true_or, or_true, not_true_eq_false, not_false_eq_true, ex_bool, true_implies, false_implies, Bool.not_true, Bool.not_false, Int.reduceBEq, Int.reduceEq, Int.reduceLT, Int.reduceLE, Int.reduceNeg, Bool.and_self, Bool.and_true, Bool.true_and, Option.bind_some, hadd_twice]
  refine sumAdd_ac 1 0 (by decide) (by decide) s ?_
  try simp only [E_skip, E_ops, E_seq, E_cond, E_block, E_exit, E_ret, opsE, stepE, HK.E, PK.ev, RK.ev, AK.ev, AK.by, Nat.reduceBEq, callV, Opd.ev, put, upd, wantedE, guardOk, andThen, atBlock, Mir.start, evBin, evBounds, evEq, evMm, evMms, partOf, fillIn, V.cells, V.flat, List.all_cons, List.all_nil, List.length_cons, List.length_nil, List.getElem?_cons_zero, List.getElem?_cons_succ, List.getElem?_nil, Option.getD_some, Option.getD_none, Option.map_some, Option.map_none, if_true, if_false, true_and, and_true, reduceIte, Nat.reduceEqDiff, Nat.reduceAdd, Nat.reduceLeDiff, dfrE, List.map_cons, List.map_nil, resOf, allSome, packed, reduceCtorEq, hadd_same, List.take_succ_cons, List.take_zero, List.drop_succ_cons, List.drop_zero, List.nil_append, List.append_nil, List.cons_append, Bool.true_eq_false, Bool.false_eq_true, beq_self_eq_true, false_or, or_false, true_or, or_true, not_true_eq_false, not_false_eq_true, ex_bool, true_implies, false_implies, Bool.not_true, Bool.not_false, Int.reduceBEq, Int.reduceEq, Int.reduceLT, Int.reduceLE, Int.reduceNeg, Bool.and_self, Bool.and_true, Bool.true_and, Option.bind_some, hadd_twice]
  refine sumValue_ac _ _ (Nat.mod_lt _ (by decide)) (Nat.mod_lt _ (by decide)) ?_
  try simp only [E_skip, E_ops, E_seq, E_cond, E_block, E_exit, E_ret, opsE, stepE, HK.E, PK.ev, RK.ev, AK.ev, AK.by, Nat.reduceBEq, callV, Opd.ev, put, upd, wantedE, guardOk, andThen, atBlock, Mir.start, evBin, evBounds, evEq, evMm, evMms, partOf, fillIn, V.cells, V.flat, List.all_cons, List.all_nil, List.length_cons, List.length_nil, List.getElem?_cons_zero, List.getElem?_cons_succ, List.getElem?_nil, Option.getD_some, Option.getD_none, Option.map_some, Option.map_none, if_true, if_false, true_and, and_true, reduceIte, Nat.reduceEqDiff, Nat.reduceAdd, Nat.reduceLeDiff, dfrE, List.map_cons, List.map_nil, resOf, allSome, packed, reduceCtorEq, hadd_same, List.take_succ_cons, List.take_zero, List.drop_succ_cons, List.drop_zero, List.nil_append, List.append_nil, List.cons_append, Bool.true_eq_false, Bool.false_eq_true, beq_self_eq_true, false_or, or_false, true_or, or_true, not_true_eq_false, not_false_eq_true, ex_bool, true_implies, false_implies, Bool.not_true, Bool.not_false, Int.reduceBEq, Int.reduceEq, Int.reduceLT, Int.reduceLE, Int.reduceNeg, Bool.and_self, Bool.and_true, Bool.true_and, Option.bind_some, hadd_twice]
  exact ⟨_, h, rfl, Sub.refl, hq⟩
theorem bytesIn_len (s : List UInt8) : (bytesIn s).length = s.length := by simp [bytesIn]
theorem bytesOf_in : ∀ s : List UInt8, bytesOf (bytesIn s) = some s
  | [] => rfl
  | c :: s => by
    show bytesOf (.int .u8 c.toNat :: bytesIn s) = _
    simp only [bytesOf, bytesOf_in s, Int.toNat_natCast]
    congr 2
    exact UInt8.ofNat_toNat
theorem and15 {x : Nat} : (BitVec.ofInt 32 (x : Int) &&& BitVec.ofInt 32 15).toNat = x % 4294967296 % 16 := by
  rw [ofInt_nat, show BitVec.ofInt 32 15 = BitVec.ofNat 32 15 from rfl, BitVec.toNat_and, BitVec.toNat_ofNat, BitVec.toNat_ofNat]
  exact Nat.and_two_pow_sub_one_eq_mod _ 4
theorem digits : ∀ d, d < 16 → ([48, 49, 50, 51, 52, 53, 54, 55, 56, 57, 97, 98, 99, 100, 101, 102] : List UInt8)[d]? = some (dig d) := by decide
/-- The row while it is filled. -/
def rowAt (x i : Nat) : List V := bytesIn ((hexOf x).take i) ++ List.replicate (8 - i) (.int .u8 0)
theorem rowAt_step (x : Nat) {i : Nat} (hi : i < 8) : (rowAt x i).take i ++ [.int .u8 (dig (x / 16 ^ (7 - i) % 16)).toNat] ++ (rowAt x i).drop (i + 1) = rowAt x (i + 1) := by
  have hl : (bytesIn ((hexOf x).take i)).length = i := by rw [bytesIn_len, List.length_take, hexOf_len]; omega
  unfold rowAt
  rw [List.take_append_of_le_length (by omega), List.take_of_length_le (by omega), List.drop_append, List.drop_eq_nil_of_le (by omega), hl, List.nil_append, List.drop_replicate]
  have : (hexOf x).take (i + 1) = (hexOf x).take i ++ [dig (x / 16 ^ (7 - i) % 16)] := by rw [List.take_add_one, hexOf_get x hi]; rfl
  rw [this, bytesIn, bytesIn, List.map_append]
  congr 2
  omega
theorem rowAt_len (x i : Nat) (hi : i ≤ 8) : (rowAt x i).length = 8 := by
  rw [rowAt, List.length_append, bytesIn_len, List.length_take, hexOf_len, List.length_replicate]; omega
theorem sumHexT_ac {h : H} {Q : V → H → Prop} (x : Nat) (hx : x < 4294967296) (hq : Q (.str (hexOf x)) h) : AC pg (.fn 31) [.int .u32 x] h Q := by
  refine AC.fn (g := g31) rfl (by simp only [List.length_cons, List.length_nil, g31]; decide) ?_
  simp only [g31, E_skip, E_ops, E_seq, E_cond, E_block, E_exit, E_ret, opsE, stepE, HK.E, PK.ev, RK.ev, AK.ev, AK.by, Nat.reduceBEq, callV, Opd.ev, put, upd, wantedE, guardOk, andThen, atBlock, Mir.start, evBin, evBounds, evEq, evMm, evMms, partOf, fillIn, V.cells, V.flat, List.all_cons, List.all_nil, List.length_cons, List.length_nil, List.getElem?_cons_zero, List.getElem?_cons_succ, List.getElem?_nil, Option.getD_some, Option.getD_none, Option.map_some, Option.map_none, if_true, if_false, true_and, and_true, reduceIte, Nat.reduceEqDiff, Nat.reduceAdd, Nat.reduceLeDiff, dfrE, List.map_cons, List.map_nil, resOf, allSome, packed, reduceCtorEq, hadd_same, List.take_succ_cons, List.take_zero, List.drop_succ_cons, List.drop_zero, List.nil_append, List.append_nil, List.cons_append, Bool.true_eq_false, Bool.false_eq_true, beq_self_eq_true, false_or, or_false, true_or, or_true, not_true_eq_false, not_false_eq_true, ex_bool, true_implies, false_implies, Bool.not_true, Bool.not_false, Int.reduceBEq, Int.reduceEq, Int.reduceLT, Int.reduceLE, Int.reduceNeg, Bool.and_self, Bool.and_true, Bool.true_and, Option.bind_some, hadd_twice]
  rw [if_pos (by decide)]
  simp only [E_skip, E_ops, E_seq, E_cond, E_block, E_exit, E_ret, opsE, stepE, HK.E, PK.ev, RK.ev, AK.ev, AK.by, Nat.reduceBEq, callV, Opd.ev, put, upd, wantedE, guardOk, andThen, atBlock, Mir.start, evBin, evBounds, evEq, evMm, evMms, partOf, fillIn, V.cells, V.flat, List.all_cons, List.all_nil, List.length_cons, List.length_nil, List.getElem?_cons_zero, List.getElem?_cons_succ, List.getElem?_nil, Option.getD_some, Option.getD_none, Option.map_some, Option.map_none, if_true, if_false, true_and, and_true, reduceIte, Nat.reduceEqDiff, Nat.reduceAdd, Nat.reduceLeDiff, dfrE, List.map_cons, List.map_nil, resOf, allSome, packed, reduceCtorEq, hadd_same, List.take_succ_cons, List.take_zero, List.drop_succ_cons, List.drop_zero, List.nil_append, List.append_nil, List.cons_append, Bool.true_eq_false, Bool.false_eq_true, beq_self_eq_true, false_or, or_false, true_or, or_true, not_true_eq_false, not_false_eq_true, ex_bool, true_implies, false_implies, Bool.not_true, Bool.not_false, Int.reduceBEq, Int.reduceEq, Int.reduceLT, Int.reduceLE, Int.reduceNeg, Bool.and_self, Bool.and_true, Bool.true_and, Option.bind_some, hadd_twice]
  intro b hb _
  refine E.loop AC.mono (fun a1 h1 => ∃ i : Nat, i ≤ 8 ∧ a1.d = [] ∧ a1.t 0 = .int .u32 x ∧ a1.t 3 = .sl b 0 1 8 ∧ a1.t 7 = .int .i64 8 ∧ a1.t 8 = .int .i64 i ∧ h1 b = some (.cells (rowAt x i) false) ∧ Sub h h1)
    (fun a1 _ => match a1.t 8 with | .int _ i => (8 - i).toNat | _ => 0) ?_ ?_
  · exact ⟨0, Nat.zero_le _, rfl, rfl, rfl, rfl, rfl, hadd_same, Sub.put Sub.refl hb⟩
  · rintro ⟨t, d⟩ h1 ⟨i, hi8, hd, t0, t3, t7, t8, m, hsub⟩
    simp only at hd t0 t3 t7 t8
    subst hd
    simp only [E_skip, E_ops, E_seq, E_cond, E_block, E_exit, E_ret, opsE, stepE, HK.E, PK.ev, RK.ev, AK.ev, AK.by, Nat.reduceBEq, callV, Opd.ev, put, upd, wantedE, guardOk, andThen, atBlock, Mir.start, evBin, evBounds, evEq, evMm, evMms, partOf, fillIn, V.cells, V.flat, List.all_cons, List.all_nil, List.length_cons, List.length_nil, List.getElem?_cons_zero, List.getElem?_cons_succ, List.getElem?_nil, Option.getD_some, Option.getD_none, Option.map_some, Option.map_none, if_true, if_false, true_and, and_true, reduceIte, Nat.reduceEqDiff, Nat.reduceAdd, Nat.reduceLeDiff, dfrE, List.map_cons, List.map_nil, resOf, allSome, packed, reduceCtorEq, hadd_same, List.take_succ_cons, List.take_zero, List.drop_succ_cons, List.drop_zero, List.nil_append, List.append_nil, List.cons_append, Bool.true_eq_false, Bool.false_eq_true, beq_self_eq_true, false_or, or_false, true_or, or_true, not_true_eq_false, not_false_eq_true, ex_bool, true_implies, false_implies, Bool.not_true, Bool.not_false, Int.reduceBEq, Int.reduceEq, Int.reduceLT, Int.reduceLE, Int.reduceNeg, Bool.and_self, Bool.and_true, Bool.true_and, Option.bind_some, hadd_twice, t0, t3, t7, t8, m]
    refine ⟨fun e => ?_, fun e => ?_⟩
    · have hi : i < 8 := by have := of_decide_eq_true e; omega
      have e1 : IntKind.i64.wrap (4 * (i : Int)) = 4 * (i : Int) := wrap_i64_id (by omega) (by omega)
      have e2 : IntKind.i64.wrap (28 - 4 * (i : Int)) = ((28 - 4 * i : Nat) : Int) := by rw [wrap_i64_id (by omega) (by omega)]; omega
      have e3 : Int.fdiv (x : Int) (2 ^ min (28 - 4 * i) 32) = ((x / 16 ^ (7 - i) : Nat) : Int) := by
        rw [Int.fdiv_eq_ediv_of_nonneg _ (by exact Int.le_of_lt (Int.pow_pos (by decide))), show min (28 - 4 * i) 32 = 4 * (7 - i) from by omega, Int.pow_mul]
        show _ = ((x / 16 ^ (7 - i) : Nat) : Int)
        rw [Int.natCast_ediv, Int.natCast_pow]; rfl
      have hlt : x / 16 ^ (7 - i) < 4294967296 := Nat.lt_of_le_of_lt (Nat.div_le_self _ _) hx
      have hst := rowAt_step x hi
      have e7 := digits (x / 16 ^ (7 - i) % 16) (Nat.mod_lt _ (by decide))
      generalize x / 16 ^ (7 - i) = q at e3 hlt hst e7
      have e4 : IntKind.u32.wrap (q : Int) = (q : Int) := wrap_u32_id (by omega) (by omega)
      have e5 : IntKind.u32.wrap (((BitVec.ofInt IntKind.u32.bits (q : Int) &&& BitVec.ofInt IntKind.u32.bits 15).toNat : Nat) : Int) = ((q % 16 : Nat) : Int) := by
        show IntKind.u32.wrap (((BitVec.ofInt 32 (q : Int) &&& BitVec.ofInt 32 15).toNat : Nat) : Int) = _
        rw [and15, Nat.mod_eq_of_lt hlt, wrap_u32_id (by omega) (by omega)]
      have e6 : IntKind.i64.wrap ((i : Int) + 1) = ((i + 1 : Nat) : Int) := by rw [wrap_i64_id (by omega) (by omega)]; omega
      have hl := rowAt_len x i hi8
      have p1 : (((28 - 4 * i : Nat) : Int) < 0) = False := eq_false (by omega)
      have p2 : (0 ≤ ((q % 16 : Nat) : Int)) = True := eq_true (by omega)
      have p3 : (0 ≤ (i : Int) ∧ (i : Int) < ((8 : Nat) : Int)) = True := eq_true (by omega)
      simp only [E_skip, E_ops, E_seq, E_cond, E_block, E_exit, E_ret, opsE, stepE, HK.E, PK.ev, RK.ev, AK.ev, AK.by, Nat.reduceBEq, callV, Opd.ev, put, upd, wantedE, guardOk, andThen, atBlock, Mir.start, evBin, evBounds, evEq, evMm, evMms, partOf, fillIn, V.cells, V.flat, List.all_cons, List.all_nil, List.length_cons, List.length_nil, List.getElem?_cons_zero, List.getElem?_cons_succ, List.getElem?_nil, Option.getD_some, Option.getD_none, Option.map_some, Option.map_none, if_true, if_false, true_and, and_true, reduceIte, Nat.reduceEqDiff, Nat.reduceAdd, Nat.reduceLeDiff, dfrE, List.map_cons, List.map_nil, resOf, allSome, packed, reduceCtorEq, hadd_same, List.take_succ_cons, List.take_zero, List.drop_succ_cons, List.drop_zero, List.nil_append, List.append_nil, List.cons_append, Bool.true_eq_false, Bool.false_eq_true, beq_self_eq_true, false_or, or_false, true_or, or_true, not_true_eq_false, not_false_eq_true, ex_bool, true_implies, false_implies, Bool.not_true, Bool.not_false, Int.reduceBEq, Int.reduceEq, Int.reduceLT, Int.reduceLE, Int.reduceNeg, Bool.and_self, Bool.and_true, Bool.true_and, Option.bind_some, hadd_twice, show IntKind.u32.bits = 32 from rfl, e1, e2, Int.toNat_natCast, e3, e4, e5, e6, p1, p2, p3, e7, m, Nat.zero_add, Nat.mul_one, hl, hst]
      refine ⟨by omega, ⟨i + 1, by omega, rfl, rfl, Sub.put hsub hb⟩, ?_⟩
      show (8 - ((i + 1 : Nat) : Int)).toNat < (8 - (i : Int)).toNat
      omega
    · have hi : i = 8 := by have := of_decide_eq_false e; omega
      subst hi
      have e8 : List.take 8 (rowAt x 8) = bytesIn (hexOf x) := by
        rw [List.take_of_length_le (by rw [rowAt_len x 8 (Nat.le_refl _)]; exact Nat.le_refl _), rowAt, List.take_of_length_le (by rw [hexOf_len]; exact Nat.le_refl _)]
        exact List.append_nil _
      rw [if_pos (by rw [rowAt_len x 8 (Nat.le_refl _)]; exact Nat.le_refl _), e8, bytesOf_in]
      exact ⟨_, h, rfl, hsub, hq⟩
theorem sumOf_lt (s : List UInt8) : sumOf s < 4294967296 := by
  have := ha_lt s; have := hb_lt s; unfold sumOf; omega
theorem sumCheck_ac {h : H} {Q : V → H → Prop} (s t : List UInt8) (hq : Q (.int .i64 (codeOf s t : Nat)) h) : AC pg (.fn 38) [.str s, .str t] h Q := by
  refine AC.fn (g := g38) rfl (by simp only [List.length_cons, List.length_nil, g38]; decide) ?_
  simp only [g38, E_skip, E_ops, E_seq, E_cond, E_block, E_exit, E_ret, opsE, stepE, HK.E, PK.ev, RK.ev, AK.ev, AK.by, Nat.reduceBEq, callV, Opd.ev, put, upd, wantedE, guardOk, andThen, atBlock, Mir.start, evBin, evBounds, evEq, evMm, evMms, partOf, fillIn, V.cells, V.flat, List.all_cons, List.all_nil, List.length_cons, List.length_nil, List.getElem?_cons_zero, List.getElem?_cons_succ, List.getElem?_nil, Option.getD_some, Option.getD_none, Option.map_some, Option.map_none, if_true, if_false, true_and, and_true, reduceIte, Nat.reduceEqDiff, Nat.reduceAdd, Nat.reduceLeDiff, dfrE, List.map_cons, List.map_nil, resOf, allSome, packed, reduceCtorEq, hadd_same, List.take_succ_cons, List.take_zero, List.drop_succ_cons, List.drop_zero, List.nil_append, List.append_nil, List.cons_append, Bool.true_eq_false, Bool.false_eq_true, beq_self_eq_true, false_or, or_false, true_or, or_true, not_true_eq_false, not_false_eq_true, ex_bool, true_implies, false_implies, Bool.not_true, Bool.not_false, Int.reduceBEq, Int.reduceEq, Int.reduceLT, Int.reduceLE, Int.reduceNeg, Bool.and_self, Bool.and_true, Bool.true_and, Option.bind_some, hadd_twice]
  refine ⟨fun e => ?_, fun e => ?_⟩
  · have h8 : ¬ s.length = 8 := fun e' => by rw [e'] at e; cases e
    refine ⟨_, h, rfl, Sub.refl, ?_⟩
    rw [codeOf, if_neg (fun c => h8 c.1)] at hq
    exact hq
  · have h8 : s.length = 8 := by simp at e; omega
    intro b hb
    refine E.loop AC.mono (fun a1 h1 => ∃ i : Nat, i ≤ 8 ∧ a1.d = [] ∧ a1.t 0 = .str s ∧ a1.t 1 = .str t ∧ a1.t 11 = .sl b 0 1 8 ∧ a1.t 12 = .int .i64 8 ∧ a1.t 13 = .int .i64 i ∧ (s.take i).all isHex = true ∧ h1 b = some (.cells (bytesIn s) false) ∧ Sub h h1)
      (fun a1 _ => match a1.t 13 with | .int _ i => (8 - i).toNat | _ => 0) ?_ ?_
    · refine ⟨0, Nat.zero_le _, rfl, rfl, rfl, ?_, ?_, rfl, rfl, hadd_same, Sub.put Sub.refl hb⟩
      · show V.sl _ _ _ _ = _; rw [h8]
      · show V.int _ _ = _; rw [h8]; rfl
    · rintro ⟨t', d⟩ h1 ⟨i, hi8, hd, t0, t1, t11, t12, t13, hall, m, hsub⟩
      simp only at hd t0 t1 t11 t12 t13
      subst hd
      simp only [E_skip, E_ops, E_seq, E_cond, E_block, E_exit, E_ret, opsE, stepE, HK.E, PK.ev, RK.ev, AK.ev, AK.by, Nat.reduceBEq, callV, Opd.ev, put, upd, wantedE, guardOk, andThen, atBlock, Mir.start, evBin, evBounds, evEq, evMm, evMms, partOf, fillIn, V.cells, V.flat, List.all_cons, List.all_nil, List.length_cons, List.length_nil, List.getElem?_cons_zero, List.getElem?_cons_succ, List.getElem?_nil, Option.getD_some, Option.getD_none, Option.map_some, Option.map_none, if_true, if_false, true_and, and_true, reduceIte, Nat.reduceEqDiff, Nat.reduceAdd, Nat.reduceLeDiff, dfrE, List.map_cons, List.map_nil, resOf, allSome, packed, reduceCtorEq, hadd_same, List.take_succ_cons, List.take_zero, List.drop_succ_cons, List.drop_zero, List.nil_append, List.append_nil, List.cons_append, Bool.true_eq_false, Bool.false_eq_true, beq_self_eq_true, false_or, or_false, true_or, or_true, not_true_eq_false, not_false_eq_true, ex_bool, true_implies, false_implies, Bool.not_true, Bool.not_false, Int.reduceBEq, Int.reduceEq, Int.reduceLT, Int.reduceLE, Int.reduceNeg, Bool.and_self, Bool.and_true, Bool.true_and, Option.bind_some, hadd_twice, t0, t1, t11, t12, t13, m]
      refine ⟨fun e => ?_, fun e => ?_⟩
      · have hi : i < 8 := by have := of_decide_eq_true e; omega
        obtain ⟨x, hx⟩ : ∃ x, s[i]? = some x := ⟨s[i]'(by omega), List.getElem?_eq_getElem (by omega)⟩
        have hg : (bytesIn s)[i]? = some (.int .u8 x.toNat) := by rw [bytesIn, List.getElem?_map, hx]; rfl
        have htk : s.take (i + 1) = s.take i ++ [x] := by rw [List.take_add_one, hx]; rfl
        have p3 : (0 ≤ (i : Int) ∧ (i : Int) < ((8 : Nat) : Int)) = True := eq_true (by omega)
        have e6 : IntKind.i64.wrap ((i : Int) + 1) = ((i + 1 : Nat) : Int) := by rw [wrap_i64_id (by omega) (by omega)]; omega
        have fail : isHex x = false → Q (.int .i64 3) h := fun hh => by
          have : ¬ (s.length = 8 ∧ s.all isHex = true) := fun c => by
            have := List.all_eq_true.1 c.2 x (List.mem_of_getElem? hx)
            rw [hh] at this; cases this
          rw [codeOf, if_neg this] at hq; exact hq
        have cont : isHex x = true → (∃ i_1 : Nat, i_1 ≤ 8 ∧ V.int IntKind.i64 ((i + 1 : Nat) : Int) = V.int IntKind.i64 i_1 ∧ (List.take i_1 s).all isHex = true ∧ Sub h h1) ∧ (8 - ((i + 1 : Nat) : Int)).toNat < (8 - (i : Int)).toNat := fun hh =>
          ⟨⟨i + 1, by omega, rfl, by rw [htk, List.all_append, hall]; simp [hh], hsub⟩, by omega⟩
        cases c1 : decide ((x.toNat : Int) < 48) <;> cases c2 : decide (57 < (x.toNat : Int)) <;> cases c3 : decide ((x.toNat : Int) < 97) <;> cases c4 : decide (102 < (x.toNat : Int)) <;>
          simp only [E_skip, E_ops, E_seq, E_cond, E_block, E_exit, E_ret, opsE, stepE, HK.E, PK.ev, RK.ev, AK.ev, AK.by, Nat.reduceBEq, callV, Opd.ev, put, upd, wantedE, guardOk, andThen, atBlock, Mir.start, evBin, evBounds, evEq, evMm, evMms, partOf, fillIn, V.cells, V.flat, List.all_cons, List.all_nil, List.length_cons, List.length_nil, List.getElem?_cons_zero, List.getElem?_cons_succ, List.getElem?_nil, Option.getD_some, Option.getD_none, Option.map_some, Option.map_none, if_true, if_false, true_and, and_true, reduceIte, Nat.reduceEqDiff, Nat.reduceAdd, Nat.reduceLeDiff, dfrE, List.map_cons, List.map_nil, resOf, allSome, packed, reduceCtorEq, hadd_same, List.take_succ_cons, List.take_zero, List.drop_succ_cons, List.drop_zero, List.nil_append, List.append_nil, List.cons_append, Bool.true_eq_false, Bool.false_eq_true, beq_self_eq_true, false_or, or_false, true_or, or_true, not_true_eq_false, not_false_eq_true, ex_bool, true_implies, false_implies, Bool.not_true, Bool.not_false, Int.reduceBEq, Int.reduceEq, Int.reduceLT, Int.reduceLE, Int.reduceNeg, Bool.and_self, Bool.and_true, Bool.true_and, Option.bind_some, hadd_twice, p3, m, Int.toNat_natCast, Nat.zero_add, Nat.mul_one, hg, c1, c2, c3, c4, e6] <;>
          simp only [decide_eq_true_eq, decide_eq_false_iff_not] at c1 c2 c3 c4 <;>
          first
            | exact ⟨_, h, rfl, hsub, fail (by simp only [isHex, Bool.or_eq_false_iff, Bool.and_eq_false_iff, decide_eq_false_iff_not]; omega)⟩
            | exact cont (by simp only [isHex, Bool.or_eq_true, Bool.and_eq_true, decide_eq_true_eq]; omega)
            | omega
      · have hi : i = 8 := by have := of_decide_eq_false e; omega
        subst hi
        rw [List.take_of_length_le (by omega)] at hall
        refine sumOf_ac t ?_
        try simp only [E_skip, E_ops, E_seq, E_cond, E_block, E_exit, E_ret, opsE, stepE, HK.E, PK.ev, RK.ev, AK.ev, AK.by, Nat.reduceBEq, callV, Opd.ev, put, upd, wantedE, guardOk, andThen, atBlock, Mir.start, evBin, evBounds, evEq, evMm, evMms, partOf, fillIn, V.cells, V.flat, List.all_cons, List.all_nil, List.length_cons, List.length_nil, List.getElem?_cons_zero, List.getElem?_cons_succ, List.getElem?_nil, Option.getD_some, Option.getD_none, Option.map_some, Option.map_none, if_true, if_false, true_and, and_true, reduceIte, Nat.reduceEqDiff, Nat.reduceAdd, Nat.reduceLeDiff, dfrE, List.map_cons, List.map_nil, resOf, allSome, packed, reduceCtorEq, hadd_same, List.take_succ_cons, List.take_zero, List.drop_succ_cons, List.drop_zero, List.nil_append, List.append_nil, List.cons_append, Bool.true_eq_false, Bool.false_eq_true, beq_self_eq_true, false_or, or_false, true_or, or_true, not_true_eq_false, not_false_eq_true, ex_bool, true_implies, false_implies, Bool.not_true, Bool.not_false, Int.reduceBEq, Int.reduceEq, Int.reduceLT, Int.reduceLE, Int.reduceNeg, Bool.and_self, Bool.and_true, Bool.true_and, Option.bind_some, hadd_twice]
        refine sumHexT_ac _ (sumOf_lt t) ?_
        try simp only [E_skip, E_ops, E_seq, E_cond, E_block, E_exit, E_ret, opsE, stepE, HK.E, PK.ev, RK.ev, AK.ev, AK.by, Nat.reduceBEq, callV, Opd.ev, put, upd, wantedE, guardOk, andThen, atBlock, Mir.start, evBin, evBounds, evEq, evMm, evMms, partOf, fillIn, V.cells, V.flat, List.all_cons, List.all_nil, List.length_cons, List.length_nil, List.getElem?_cons_zero, List.getElem?_cons_succ, List.getElem?_nil, Option.getD_some, Option.getD_none, Option.map_some, Option.map_none, if_true, if_false, true_and, and_true, reduceIte, Nat.reduceEqDiff, Nat.reduceAdd, Nat.reduceLeDiff, dfrE, List.map_cons, List.map_nil, resOf, allSome, packed, reduceCtorEq, hadd_same, List.take_succ_cons, List.take_zero, List.drop_succ_cons, List.drop_zero, List.nil_append, List.append_nil, List.cons_append, Bool.true_eq_false, Bool.false_eq_true, beq_self_eq_true, false_or, or_false, true_or, or_true, not_true_eq_false, not_false_eq_true, ex_bool, true_implies, false_implies, Bool.not_true, Bool.not_false, Int.reduceBEq, Int.reduceEq, Int.reduceLT, Int.reduceLE, Int.reduceNeg, Bool.and_self, Bool.and_true, Bool.true_and, Option.bind_some, hadd_twice, t0]
        refine ⟨fun e => ⟨_, h, rfl, hsub, ?_⟩, fun e => ⟨_, h, rfl, hsub, ?_⟩⟩
        · have hne : ¬ s = hexOf (sumOf t) := by simpa using e
          rw [codeOf, if_pos ⟨h8, hall⟩, if_neg hne] at hq; exact hq
        · have heq : s = hexOf (sumOf t) := by simpa using e
          rw [codeOf, if_pos ⟨h8, hall⟩, if_pos heq] at hq; exact hq
end Go.Proofs.YtijipnkdabdioabGreatDoor
