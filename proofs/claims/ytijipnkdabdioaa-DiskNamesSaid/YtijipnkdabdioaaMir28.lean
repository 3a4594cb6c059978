/- The mirror, part 28: whole numbers: laws whose conditions omega decides. -/
import Derived.Test.YtijipnkdabdioaaMir27
set_option linter.unusedSimpArgs false
set_option linter.unusedVariables false
namespace Mir
open Go
variable {h h' : H}
theorem tmod_nn {a b : Int} (h : 0 ≤ a) : Int.tmod a b = a % b := Int.tmod_eq_emod_of_nonneg h
theorem tdiv_nn {a b : Int} (h : 0 ≤ a) : Int.tdiv a b = a / b := Int.tdiv_eq_ediv_of_nonneg h
theorem emod_nn {a b : Int} (h : 0 ≤ a) (g : a < b) : a % b = a := Int.emod_eq_of_lt h g
theorem bits_u8 : IntKind.u8.bits = 8 := rfl
theorem bits_u32 : IntKind.u32.bits = 32 := rfl
theorem bits_u64 : IntKind.u64.bits = 64 := rfl
theorem bits_i64 : IntKind.i64.bits = 64 := rfl
theorem bits_i32 : IntKind.i32.bits = 32 := rfl
theorem wrap_i32_id {n : Int} (h0 : -2147483648 ≤ n) (h1 : n < 2147483648) : IntKind.i32.wrap n = n := by
  simp [IntKind.wrap, IntKind.bits, IntKind.signed]; omega
theorem and_mask32 {x : Int} (k : Nat) (hk : k ≤ 32) (h0 : 0 ≤ x) (h1 : x < 4294967296) : (((BitVec.ofInt 32 x &&& BitVec.ofInt 32 ((2 ^ k - 1 : Nat) : Int)).toNat : Nat) : Int) = x % (2 ^ k : Nat) := by
  obtain ⟨n, rfl⟩ := Int.eq_ofNat_of_zero_le h0
  have h2 : 2 ^ k ≤ 2 ^ 32 := Nat.pow_le_pow_right (by decide) hk
  have h3 : 0 < 2 ^ k := Nat.pow_pos (by decide)
  rw [ofInt_nat, ofInt_nat, BitVec.toNat_and, BitVec.toNat_ofNat, BitVec.toNat_ofNat, Nat.mod_eq_of_lt (by omega), Nat.mod_eq_of_lt (by omega), Nat.and_two_pow_sub_one_eq_mod]
  rfl
theorem and_ffff {x : Int} (h0 : 0 ≤ x) (h1 : x < 4294967296) : (((BitVec.ofInt 32 x &&& BitVec.ofInt 32 65535).toNat : Nat) : Int) = x % 65536 := and_mask32 16 (by decide) h0 h1
theorem shr32_16 {x : Int} : Int.fdiv x (2 ^ min (Int.toNat 16) 32) = x / 65536 := by
  rw [show (2 : Int) ^ min (Int.toNat 16) 32 = 65536 from rfl, Int.fdiv_eq_ediv_of_nonneg _ (by decide)]
theorem shl32_16 {x : Int} : x * 2 ^ min (Int.toNat 16) 32 = x * 65536 := rfl
theorem or32_16 {a b : Int} (ha : 0 ≤ a) (ha' : a < 65536) (hb : 0 ≤ b) (hb' : b < 65536) : (((BitVec.ofInt 32 (b * 65536) ||| BitVec.ofInt 32 a).toNat : Nat) : Int) = b * 65536 + a := by
  obtain ⟨m, rfl⟩ := Int.eq_ofNat_of_zero_le ha
  obtain ⟨n, rfl⟩ := Int.eq_ofNat_of_zero_le hb
  have := or_halves (a := m) (b := n) (by omega) (by omega)
  rw [show ((n : Int) * 65536) = ((n * 65536 : Nat) : Int) from by omega]
  omega
/-- A name that holds something isn't a new one. -/
theorem ne_new {b p : Nat} {o : AObj} (hp : h p = some o) (hb : h b = none) : p ≠ b := fun e => by subst e; rw [hp] at hb; cases hb
theorem hset_ne {b i : Nat} {o : Option AObj} (e : i ≠ b) : hset h b o i = h i := by simp [hset, e]
end Mir
