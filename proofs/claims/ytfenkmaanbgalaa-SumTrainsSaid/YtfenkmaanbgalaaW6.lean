/- Walks, 6: sums joined. -/
import Derived.Test.YtfenkmaanbgalaaW5
import Derived.Test.YtfenkmaanbgalaaMir29
set_option linter.unusedSimpArgs false
set_option linter.unusedVariables false
namespace Go.Proofs.Ytfenkmaanbgalaa
open Mir SumMath
def joinI (x y n : Int) : Int := if n < 0 then x else
  (x / 65536 + y / 65536 + n % 65521 * ((x % 65536 + 65520) % 65521)) % 65521 * 65536 + (x % 65536 + y % 65536 + 65520) % 65521
theorem joinI_nat (x y n : Nat) : joinI x y n = (join x y n : Nat) := by
  rw [joinI, if_neg (by omega), join]
  simp only [Int.natCast_add, Int.natCast_mul, Int.natCast_ediv, Int.natCast_emod]
  rfl
theorem joinI_lt {x y n : Int} (hx : 0 ≤ x) (hx' : x < 4294967296) : 0 ≤ joinI x y n ∧ joinI x y n < 4294967296 := by
  unfold joinI
  split
  · exact ⟨hx, hx'⟩
  · generalize n % 65521 * ((x % 65536 + 65520) % 65521) = P
    omega
theorem prod_le {m a : Int} (h0 : 0 ≤ m) (h1 : m ≤ 65520) (a0 : 0 ≤ a) (a1 : a ≤ 131055) : 0 ≤ m * a ∧ m * a ≤ 8586723600 :=
  ⟨Int.mul_nonneg h0 a0, Int.le_trans (Int.mul_le_mul h1 a1 a0 (by decide)) (by decide)⟩
theorem mulmodI (b n a : Int) : (b + n % 65521 * a) % 65521 = (b + n % 65521 * (a % 65521)) % 65521 := by
  have h : (n % 65521 * a) % 65521 = (n % 65521 * (a % 65521)) % 65521 := by rw [Int.mul_emod, Int.emod_emod, Int.mul_emod (n % 65521) (a % 65521), Int.emod_emod, Int.emod_emod]
  omega
theorem join_ac {h : H} {Q : V → H → Prop} (x y n : Int) (hx : 0 ≤ x) (hx' : x < 4294967296) (hy : 0 ≤ y) (hy' : y < 4294967296) (hn' : n < 9223372036854775808) (hq : Q (.int .u32 (joinI x y n)) h) :
    AC pg (.fn 20) [.int .u32 x, .int .u32 y, .int .i64 n] h Q := by
  refine AC.fn' (g := g20) rfl (by simp only [List.length_cons, List.length_nil, g20]; decide) ?_; simp only [g20]
  by_cases hn : n < 0
  · ((try simp -implicitDefEqProofs only [later, laterE]); (repeat (first | simp -implicitDefEqProofs only [go_sem, ↓reduceIte, Nat.reduceEqDiff, Nat.reduceAdd, Nat.reduceLeDiff, Nat.reduceLT, Nat.reduceMul, reduceCtorEq, Int.reduceEq, Int.reduceLT, Int.reduceLE, Int.reduceNeg, Int.reduceToNat, Int.reduceMul, Int.reduceAdd, Int.reduceSub] | simp (disch := (first | omega | (simp only [List.length_append, List.length_cons, List.length_nil]; omega) | (simp only [List.length_append, List.length_cons, List.length_nil, List.length_take, List.length_drop]; omega))) only [wrap_u8_id, wrap_u32_id, wrap_u64_id, wrap_i64_id, wrap_i32_id, tmod_nn, tdiv_nn, Int.toNat_natCast, bnd_nh, bnd_ln, bnd_lh, is_str, ix_sl, ir_ptr, ia_agg, tsC_cells, mk_ints, evb_sadd, decide_t, decide_f, hadd_ne'])))
    rw [joinI, if_pos hn] at hq
    exact ⟨h, Sub.refl, hq⟩
  obtain ⟨p0, p1⟩ := prod_le (m := n % 65521) (a := x % 65536 + 65521 - 1) (by omega) (by omega) (by omega) (by omega)
  rw [joinI, if_neg hn, ← mulmodI] at hq
  ((try simp -implicitDefEqProofs only [later, laterE]); (repeat (first | simp -implicitDefEqProofs only [go_sem, ↓reduceIte, Nat.reduceEqDiff, Nat.reduceAdd, Nat.reduceLeDiff, Nat.reduceLT, Nat.reduceMul, reduceCtorEq, Int.reduceEq, Int.reduceLT, Int.reduceLE, Int.reduceNeg, Int.reduceToNat, Int.reduceMul, Int.reduceAdd, Int.reduceSub, iand_ffff hx hx', iand_ffff hy hy', ishr_u32_16] | simp (disch := (first | omega | (simp only [List.length_append, List.length_cons, List.length_nil]; omega) | (simp only [List.length_append, List.length_cons, List.length_nil, List.length_take, List.length_drop]; omega))) only [wrap_u8_id, wrap_u32_id, wrap_u64_id, wrap_i64_id, wrap_i32_id, tmod_nn, tdiv_nn, Int.toNat_natCast, bnd_nh, bnd_ln, bnd_lh, is_str, ix_sl, ir_ptr, ia_agg, tsC_cells, mk_ints, evb_sadd, decide_t, decide_f, hadd_ne', iand_ffff hx hx', iand_ffff hy hy', ishr_u32_16])))
  simp (disch := omega) only [wrap_u8_id, wrap_u32_id, wrap_u64_id, wrap_i64_id, wrap_i32_id, tmod_nn, tdiv_nn, Int.toNat_natCast, bnd_nh, bnd_ln, bnd_lh, is_str, ix_sl, ir_ptr, ia_agg, tsC_cells, mk_ints, evb_sadd, decide_t, decide_f, hadd_ne', ishl_u32_16, ior_u32_16]
  rw [show x % 65536 + 65521 - 1 = x % 65536 + 65520 from by omega, show x % 65536 + y % 65536 + 65521 - 1 = x % 65536 + y % 65536 + 65520 from by omega]
  exact ⟨h, Sub.refl, hq⟩
theorem rjoin_ac {h : H} {Q : V → H → Prop} (x y n : Int) (hx : 0 ≤ x) (hx' : x < 4294967296) (hy : 0 ≤ y) (hy' : y < 4294967296) (hn' : n < 9223372036854775808) (hq : Q (.int .u32 (joinI x y n)) h) :
    AC pg (.fn 21) [.int .u32 x, .int .u32 y, .int .i64 n] h Q := by
  refine AC.fn' (g := g21) rfl (by simp only [List.length_cons, List.length_nil, g21]; decide) ?_; simp only [g21]
  by_cases hn : n < 0
  · ((try simp -implicitDefEqProofs only [later, laterE]); (repeat (first | simp -implicitDefEqProofs only [go_sem, ↓reduceIte, Nat.reduceEqDiff, Nat.reduceAdd, Nat.reduceLeDiff, Nat.reduceLT, Nat.reduceMul, reduceCtorEq, Int.reduceEq, Int.reduceLT, Int.reduceLE, Int.reduceNeg, Int.reduceToNat, Int.reduceMul, Int.reduceAdd, Int.reduceSub] | simp (disch := (first | omega | (simp only [List.length_append, List.length_cons, List.length_nil]; omega) | (simp only [List.length_append, List.length_cons, List.length_nil, List.length_take, List.length_drop]; omega))) only [wrap_u8_id, wrap_u32_id, wrap_u64_id, wrap_i64_id, wrap_i32_id, tmod_nn, tdiv_nn, Int.toNat_natCast, bnd_nh, bnd_ln, bnd_lh, is_str, ix_sl, ir_ptr, ia_agg, tsC_cells, mk_ints, evb_sadd, decide_t, decide_f, hadd_ne'])))
    rw [joinI, if_pos hn] at hq
    exact ⟨h, Sub.refl, hq⟩
  obtain ⟨p0, p1⟩ := prod_le (m := n % 65521) (a := (x % 65536 + 65520) % 65521) (by omega) (by omega) (by omega) (by omega)
  rw [joinI, if_neg hn] at hq
  ((try simp -implicitDefEqProofs only [later, laterE]); (repeat (first | simp -implicitDefEqProofs only [go_sem, ↓reduceIte, Nat.reduceEqDiff, Nat.reduceAdd, Nat.reduceLeDiff, Nat.reduceLT, Nat.reduceMul, reduceCtorEq, Int.reduceEq, Int.reduceLT, Int.reduceLE, Int.reduceNeg, Int.reduceToNat, Int.reduceMul, Int.reduceAdd, Int.reduceSub] | simp (disch := (first | omega | (simp only [List.length_append, List.length_cons, List.length_nil]; omega) | (simp only [List.length_append, List.length_cons, List.length_nil, List.length_take, List.length_drop]; omega))) only [wrap_u8_id, wrap_u32_id, wrap_u64_id, wrap_i64_id, wrap_i32_id, tmod_nn, tdiv_nn, Int.toNat_natCast, bnd_nh, bnd_ln, bnd_lh, is_str, ix_sl, ir_ptr, ia_agg, tsC_cells, mk_ints, evb_sadd, decide_t, decide_f, hadd_ne'])))
  exact ⟨h, Sub.refl, hq⟩
end Go.Proofs.Ytfenkmaanbgalaa
