/- The mirror, part 26: small laws for walks. -/
import Derived.Test.YtijipnkdabdioaaMir25
set_option linter.unusedSimpArgs false
set_option linter.unusedVariables false
namespace Mir
open Go
variable {call : CP} {a : A} {h h' h'' : H} {Q : Ex → A → H → Prop}

theorem E_skip : E call .skip a h Q = Q .nm a h := rfl
theorem E_ops {l : List IOp} : E call (.ops l) a h Q = opsE call l a h (Q .nm) := rfl
theorem E_draw {l : List IOp} : E call (.draw l) a h Q = drawE call l [] a h (Q .nm) := rfl
theorem E_seq {c d : IC} : E call (.seq c d) a h Q = E call c a h (andThen (fun a h => E call d a h Q) Q) := rfl
theorem E_cond {x : Opd} {c d : IC} : E call (.cond x c d) a h Q = (match x.ev a.t with
    | .bool b => (b = true → E call c a h Q) ∧ (b = false → E call d a h Q)
    | _ => False) := rfl
theorem E_block {id : Nat} {c : IC} : E call (.block id c) a h Q = E call c a h (atBlock id Q) := rfl
theorem E_exit {id : Nat} : E call (.exit id) a h Q = Q (.exit id) a h := rfl
theorem E_ret : E call .ret a h Q = Q .ret a h := rfl

theorem hadd_same {b : Nat} {o : AObj} : hadd h b o b = some o := by simp [hadd, hset]
theorem hadd_twice {b : Nat} {o o' : AObj} : hadd (hadd h b o) b o' = hadd h b o' := by
  funext i; simp only [hadd, hset]; split <;> rfl
theorem hadd_none {b i : Nat} {o : AObj} : hadd h b o i = none ↔ i ≠ b ∧ h i = none := by
  by_cases e : i = b
  · subst e; simp [hadd, hset]
  · simp [hadd, hset, e]
theorem Sub.refl : Sub h h := fun _ _ => id
theorem Sub.put (s : Sub h h') {b : Nat} (hb : h b = none) {o : AObj} : Sub h (hadd h' b o) := fun i x hi => by
  have : i ≠ b := fun e => by subst e; rw [hb] at hi; cases hi
  rw [hadd_ne this]; exact s i x hi
theorem Sub.none (s : Sub h h') {b : Nat} (hb : h' b = none) : h b = none := by
  cases e : h b with
  | none => rfl
  | some o => rw [s b o e] at hb; cases hb
theorem Sub.trans' (s : Sub h h') (t : Sub h' h'') : Sub h h'' := fun b o e => t b o (s b o e)
/-- A function's end: one result, all that it made forgotten. -/
theorem ret_one {pg : Pg} {v : V} {K : V → H → Prop} (hv : allSome [some v] = some [v] := rfl) (s : Sub h h') (hk : K v h) : ∃ vs h3, some [v] = some vs ∧ Sub h3 h' ∧ K (packed vs) h3 := ⟨_, h, rfl, s, hk⟩

theorem wrap_u8_id {n : Int} (h0 : 0 ≤ n) (h1 : n < 256) : IntKind.u8.wrap n = n := by
  simp [IntKind.wrap, IntKind.bits, IntKind.signed]; omega
theorem wrap_u32_id {n : Int} (h0 : 0 ≤ n) (h1 : n < 4294967296) : IntKind.u32.wrap n = n := by
  simp [IntKind.wrap, IntKind.bits, IntKind.signed]; omega
theorem wrap_u64_id {n : Int} (h0 : 0 ≤ n) (h1 : n < 18446744073709551616) : IntKind.u64.wrap n = n := by
  simp [IntKind.wrap, IntKind.bits, IntKind.signed]; omega
theorem wrap_i64_id {n : Int} (h0 : -9223372036854775808 ≤ n) (h1 : n < 9223372036854775808) : IntKind.i64.wrap n = n := by
  simp [IntKind.wrap, IntKind.bits, IntKind.signed]; omega
theorem ofInt_nat (w n : Nat) : BitVec.ofInt w (n : Int) = BitVec.ofNat w n := by
  apply BitVec.eq_of_toNat_eq
  simp [BitVec.toNat_ofInt, BitVec.toNat_ofNat]
theorem or_halves {a b : Nat} (ha : a < 65536) (hb : b < 65536) : (BitVec.ofInt 32 ((b * 65536 : Nat) : Int) ||| BitVec.ofInt 32 (a : Int)).toNat = b * 65536 + a := by
  rw [ofInt_nat, ofInt_nat, BitVec.toNat_or, BitVec.toNat_ofNat, BitVec.toNat_ofNat, Nat.mod_eq_of_lt (by omega), Nat.mod_eq_of_lt (by omega)]
  have := Nat.shiftLeft_add_eq_or_of_lt (i := 16) (b := a) (by omega) b
  rw [Nat.shiftLeft_eq] at this
  exact this.symm
theorem ex_bool (b : Bool) : (∃ c, V.bool b = V.bool c) = True := eq_true ⟨b, rfl⟩
end Mir
