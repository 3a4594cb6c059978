/- Walks, 3: eight digits. -/
import Derived.Test.YtfenkmaanbgalaaW2
import Derived.Test.YtfenkmaanbgalaaHexMath
set_option linter.unusedSimpArgs false
namespace Go.Proofs.Ytfenkmaanbgalaa
open Mir SumMath
theorem bytesIn_len (s : List UInt8) : (bytesIn s).length = s.length := by simp [bytesIn]
theorem bytesOf_in : ∀ s : List UInt8, bytesOf (bytesIn s) = some s
  | [] => rfl
  | c :: s => by
    show bytesOf (.int .u8 c.toNat :: bytesIn s) = _
    simp only [bytesOf, bytesOf_in s, Int.toNat_natCast]
    congr 2
    exact UInt8.ofNat_toNat
theorem and15 {x : Nat} : (BitVec.ofInt 32 (x : Int) &&& BitVec.ofInt 32 15).toNat = x % 4294967296 % 16 := by
  rw [ofInt_nat, show BitVec.ofInt 32 15 = BitVec.ofNat 32 15 from rfl, BitVec.toNat_and, BitVec.toNat_ofNat, BitVec.toNat_ofNat]
  exact Nat.and_two_pow_sub_one_eq_mod _ 4
theorem digits : ∀ d, d < 16 → ([48, 49, 50, 51, 52, 53, 54, 55, 56, 57, 97, 98, 99, 100, 101, 102] : List UInt8)[d]? = some (dig d) := by decide
/-- The row while it is filled. -/
def rowAt (x i : Nat) : List V := bytesIn ((hexOf x).take i) ++ List.replicate (8 - i) (.int .u8 0)
theorem rowAt_step (x : Nat) {i : Nat} (hi : i < 8) : (rowAt x i).take i ++ [.int .u8 (dig (x / 16 ^ (7 - i) % 16)).toNat] ++ (rowAt x i).drop (i + 1) = rowAt x (i + 1) := by
  have hl : (bytesIn ((hexOf x).take i)).length = i := by rw [bytesIn_len, List.length_take, hexOf_len]; omega
  unfold rowAt
  rw [List.take_append_of_le_length (by omega), List.take_of_length_le (by omega), List.drop_append, List.drop_eq_nil_of_le (by omega), hl, List.nil_append, List.drop_replicate]
  have : (hexOf x).take (i + 1) = (hexOf x).take i ++ [dig (x / 16 ^ (7 - i) % 16)] := by rw [List.take_add_one, hexOf_get x hi]; rfl
  rw [this, bytesIn, bytesIn, List.map_append]
  congr 2
  omega
theorem rowAt_len (x i : Nat) (hi : i ≤ 8) : (rowAt x i).length = 8 := by
  rw [rowAt, List.length_append, bytesIn_len, List.length_take, hexOf_len, List.length_replicate]; omega
theorem hex_ac {h : H} {Q : V → H → Prop} (x : Nat) (hx : x < 4294967296) (hq : Q (.str (hexOf x)) h) : AC pg (.fn 14) [.int .u32 x] h Q := by
  refine AC.fn (g := g14) rfl (by simp only [List.length_cons, List.length_nil, g14]; decide) ?_
  simp only [g14, E_skip, E_ops, E_seq, E_cond, E_block, E_exit, E_ret, opsE, stepE, HK.E, PK.ev, RK.ev, AK.ev, callV, Opd.ev, put, upd, wantedE, guardOk, andThen, atBlock, Mir.start, evBin, evBounds, evEq, evMm, evMms, partOf, fillIn, V.cells, V.flat, List.all_cons, List.all_nil, List.length_cons, List.length_nil, List.getElem?_cons_zero, List.getElem?_cons_succ, List.getElem?_nil, Option.getD_some, Option.getD_none, Option.map_some, Option.map_none, if_true, if_false, true_and, and_true, reduceIte, Nat.reduceEqDiff, Nat.reduceAdd, Nat.reduceLeDiff, dfrE, List.map_cons, List.map_nil, resOf, allSome, packed, reduceCtorEq, hadd_same, List.take_succ_cons, List.take_zero, List.drop_succ_cons, List.drop_zero, List.nil_append, List.append_nil, List.cons_append, Bool.true_eq_false, Bool.false_eq_true, beq_self_eq_true, false_or, or_false, true_or, or_true, not_true_eq_false, not_false_eq_true, ex_bool, true_implies, false_implies, Bool.not_true, Bool.not_false, Int.reduceBEq, Int.reduceEq, Int.reduceLT, Int.reduceLE, Int.reduceNeg, Bool.and_self, Bool.and_true, Bool.true_and, Option.bind_some, hadd_twice]
  rw [if_pos (by decide)]
  simp only [E_skip, E_ops, E_seq, E_cond, E_block, E_exit, E_ret, opsE, stepE, HK.E, PK.ev, RK.ev, AK.ev, callV, Opd.ev, put, upd, wantedE, guardOk, andThen, atBlock, Mir.start, evBin, evBounds, evEq, evMm, evMms, partOf, fillIn, V.cells, V.flat, List.all_cons, List.all_nil, List.length_cons, List.length_nil, List.getElem?_cons_zero, List.getElem?_cons_succ, List.getElem?_nil, Option.getD_some, Option.getD_none, Option.map_some, Option.map_none, if_true, if_false, true_and, and_true, reduceIte, Nat.reduceEqDiff, Nat.reduceAdd, Nat.reduceLeDiff, dfrE, List.map_cons, List.map_nil, resOf, allSome, packed, reduceCtorEq, hadd_same, List.take_succ_cons, List.take_zero, List.drop_succ_cons, List.drop_zero, List.nil_append, List.append_nil, List.cons_append, Bool.true_eq_false, Bool.false_eq_true, beq_self_eq_true, false_or, or_false, true_or, or_true, not_true_eq_false, not_false_eq_true, ex_bool, true_implies, false_implies, Bool.not_true, Bool.not_false, Int.reduceBEq, Int.reduceEq, Int.reduceLT, Int.reduceLE, Int.reduceNeg, Bool.and_self, Bool.and_true, Bool.true_and, Option.bind_some, hadd_twice]
  intro b hb
  refine E.loop AC.mono (fun a1 h1 => ∃ i : Nat, i ≤ 8 ∧ a1.d = [] ∧ a1.t 0 = .int .u32 x ∧ a1.t 3 = .sl b 0 1 8 ∧ a1.t 7 = .int .i64 8 ∧ a1.t 8 = .int .i64 i ∧ h1 b = some (.cells (rowAt x i) false) ∧ Sub h h1)
    (fun a1 _ => match a1.t 8 with | .int _ i => (8 - i).toNat | _ => 0) ?_ ?_
  · exact ⟨0, Nat.zero_le _, rfl, rfl, rfl, rfl, rfl, hadd_same, Sub.put Sub.refl hb⟩
  · rintro ⟨t, d⟩ h1 ⟨i, hi8, hd, t0, t3, t7, t8, m, hsub⟩
    simp only at hd t0 t3 t7 t8
    subst hd
    simp only [E_skip, E_ops, E_seq, E_cond, E_block, E_exit, E_ret, opsE, stepE, HK.E, PK.ev, RK.ev, AK.ev, callV, Opd.ev, put, upd, wantedE, guardOk, andThen, atBlock, Mir.start, evBin, evBounds, evEq, evMm, evMms, partOf, fillIn, V.cells, V.flat, List.all_cons, List.all_nil, List.length_cons, List.length_nil, List.getElem?_cons_zero, List.getElem?_cons_succ, List.getElem?_nil, Option.getD_some, Option.getD_none, Option.map_some, Option.map_none, if_true, if_false, true_and, and_true, reduceIte, Nat.reduceEqDiff, Nat.reduceAdd, Nat.reduceLeDiff, dfrE, List.map_cons, List.map_nil, resOf, allSome, packed, reduceCtorEq, hadd_same, List.take_succ_cons, List.take_zero, List.drop_succ_cons, List.drop_zero, List.nil_append, List.append_nil, List.cons_append, Bool.true_eq_false, Bool.false_eq_true, beq_self_eq_true, false_or, or_false, true_or, or_true, not_true_eq_false, not_false_eq_true, ex_bool, true_implies, false_implies, Bool.not_true, Bool.not_false, Int.reduceBEq, Int.reduceEq, Int.reduceLT, Int.reduceLE, Int.reduceNeg, Bool.and_self, Bool.and_true, Bool.true_and, Option.bind_some, hadd_twice, t0, t3, t7, t8, m]
    refine ⟨fun e => ?_, fun e => ?_⟩
    · have hi : i < 8 := by have := of_decide_eq_true e; omega
      have e1 : IntKind.i64.wrap (4 * (i : Int)) = 4 * (i : Int) := wrap_i64_id (by omega) (by omega)
      have e2 : IntKind.i64.wrap (28 - 4 * (i : Int)) = ((28 - 4 * i : Nat) : Int) := by rw [wrap_i64_id (by omega) (by omega)]; omega
      have e3 : Int.fdiv (x : Int) (2 ^ min (28 - 4 * i) 32) = ((x / 16 ^ (7 - i) : Nat) : Int) := by
        rw [Int.fdiv_eq_ediv_of_nonneg _ (by exact Int.le_of_lt (Int.pow_pos (by decide))), show min (28 - 4 * i) 32 = 4 * (7 - i) from by omega, Int.pow_mul]
        show _ = ((x / 16 ^ (7 - i) : Nat) : Int)
        rw [Int.natCast_ediv, Int.natCast_pow]; rfl
      have hlt : x / 16 ^ (7 - i) < 4294967296 := Nat.lt_of_le_of_lt (Nat.div_le_self _ _) hx
      have hst := rowAt_step x hi
      have e7 := digits (x / 16 ^ (7 - i) % 16) (Nat.mod_lt _ (by decide))
      generalize x / 16 ^ (7 - i) = q at e3 hlt hst e7
      have e4 : IntKind.u32.wrap (q : Int) = (q : Int) := wrap_u32_id (by omega) (by omega)
      have e5 : IntKind.u32.wrap (((BitVec.ofInt IntKind.u32.bits (q : Int) &&& BitVec.ofInt IntKind.u32.bits 15).toNat : Nat) : Int) = ((q % 16 : Nat) : Int) := by
        show IntKind.u32.wrap (((BitVec.ofInt 32 (q : Int) &&& BitVec.ofInt 32 15).toNat : Nat) : Int) = _
        rw [and15, Nat.mod_eq_of_lt hlt, wrap_u32_id (by omega) (by omega)]
      have e6 : IntKind.i64.wrap ((i : Int) + 1) = ((i + 1 : Nat) : Int) := by rw [wrap_i64_id (by omega) (by omega)]; omega
      have hl := rowAt_len x i hi8
      have p1 : (((28 - 4 * i : Nat) : Int) < 0) = False := eq_false (by omega)
      have p2 : (0 ≤ ((q % 16 : Nat) : Int)) = True := eq_true (by omega)
      have p3 : (0 ≤ (i : Int) ∧ (i : Int) < ((8 : Nat) : Int)) = True := eq_true (by omega)
      simp only [E_skip, E_ops, E_seq, E_cond, E_block, E_exit, E_ret, opsE, stepE, HK.E, PK.ev, RK.ev, AK.ev, callV, Opd.ev, put, upd, wantedE, guardOk, andThen, atBlock, Mir.start, evBin, evBounds, evEq, evMm, evMms, partOf, fillIn, V.cells, V.flat, List.all_cons, List.all_nil, List.length_cons, List.length_nil, List.getElem?_cons_zero, List.getElem?_cons_succ, List.getElem?_nil, Option.getD_some, Option.getD_none, Option.map_some, Option.map_none, if_true, if_false, true_and, and_true, reduceIte, Nat.reduceEqDiff, Nat.reduceAdd, Nat.reduceLeDiff, dfrE, List.map_cons, List.map_nil, resOf, allSome, packed, reduceCtorEq, hadd_same, List.take_succ_cons, List.take_zero, List.drop_succ_cons, List.drop_zero, List.nil_append, List.append_nil, List.cons_append, Bool.true_eq_false, Bool.false_eq_true, beq_self_eq_true, false_or, or_false, true_or, or_true, not_true_eq_false, not_false_eq_true, ex_bool, true_implies, false_implies, Bool.not_true, Bool.not_false, Int.reduceBEq, Int.reduceEq, Int.reduceLT, Int.reduceLE, Int.reduceNeg, Bool.and_self, Bool.and_true, Bool.true_and, Option.bind_some, hadd_twice, show IntKind.u32.bits = 32 from rfl, e1, e2, Int.toNat_natCast, e3, e4, e5, e6, p1, p2, p3, e7, m, Nat.zero_add, Nat.mul_one, hl, hst]
      refine ⟨by omega, ⟨i + 1, by omega, rfl, rfl, Sub.put hsub hb⟩, ?_⟩
      show (8 - ((i + 1 : Nat) : Int)).toNat < (8 - (i : Int)).toNat
      omega
    · have hi : i = 8 := by have := of_decide_eq_false e; omega
      subst hi
      have e8 : List.take 8 (rowAt x 8) = bytesIn (hexOf x) := by
        rw [List.take_of_length_le (by rw [rowAt_len x 8 (Nat.le_refl _)]; exact Nat.le_refl _), rowAt, List.take_of_length_le (by rw [hexOf_len]; exact Nat.le_refl _)]
        exact List.append_nil _
      rw [if_pos (by rw [rowAt_len x 8 (Nat.le_refl _)]; exact Nat.le_refl _), e8, bytesOf_in]
      exact ⟨_, h, rfl, hsub, hq⟩
end Go.Proofs.Ytfenkmaanbgalaa
