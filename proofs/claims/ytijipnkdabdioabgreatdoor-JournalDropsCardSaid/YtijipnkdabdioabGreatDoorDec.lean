/- Decimal digits, plainly. -/
import Derived.Test.YtijipnkdabdioabGreatDoorMir1
namespace Mir
def dg (n : Nat) : UInt8 := UInt8.ofNat (48 + n % 10)
theorem dg_nat (n : Nat) : (dg n).toNat = 48 + n % 10 := by
  unfold dg; rw [UInt8.toNat_ofNat_of_lt' (by show 48 + n % 10 < 256; omega)]
/-- The last k digits. -/
def pad : Nat → Nat → List UInt8
  | 0, _ => []
  | k + 1, n => pad k (n / 10) ++ [dg n]
def dec (n : Nat) : List UInt8 := if n < 10 then [dg n] else dec (n / 10) ++ [dg n]
  termination_by n
  decreasing_by omega
def itoa (n : Int) : List UInt8 := if n < 0 then 45 :: dec n.natAbs else dec n.natAbs
/-- What digits say. -/
def val (l : List UInt8) : Nat := l.foldl (fun a c => a * 10 + (c.toNat - 48)) 0
def isDg (c : UInt8) : Bool := decide (48 ≤ c.toNat) && decide (c.toNat ≤ 57)
theorem pad_len : ∀ (k n : Nat), (pad k n).length = k
  | 0, _ => rfl
  | k + 1, n => by simp [pad, pad_len k]
theorem pad_add (j : Nat) : ∀ (k n : Nat), pad (j + k) n = pad j (n / 10 ^ k) ++ pad k n
  | 0, n => by simp [pad]
  | k + 1, n => by
    rw [← Nat.add_assoc, pad, pad_add j k, pad, List.append_assoc, Nat.div_div_eq_div_mul, Nat.pow_succ, Nat.mul_comm]
theorem dg_mod (n m : Nat) : dg (n % 10 ^ (m + 1)) = dg n := by
  unfold dg
  rw [Nat.pow_succ, Nat.mul_comm, Nat.mod_mul_right_mod]
theorem pad_mod : ∀ (k m n : Nat), k ≤ m → pad k (n % 10 ^ m) = pad k n
  | 0, _, _, _ => rfl
  | k + 1, m, n, h => by
    obtain ⟨m, rfl⟩ : ∃ m', m = m' + 1 := ⟨m - 1, by omega⟩
    rw [pad, pad, dg_mod, Nat.pow_succ, Nat.mul_comm, Nat.mod_mul_right_div_self, pad_mod k m _ (by omega)]
theorem pad_one (n : Nat) : pad 1 n = [dg n] := rfl
theorem pad_head (k n : Nat) : pad (k + 1) n = dg (n / 10 ^ k) :: pad k n := by
  rw [Nat.add_comm, pad_add 1 k]; rfl
theorem dec_small {n : Nat} (h : n < 10) : dec n = [dg n] := by rw [dec, if_pos h]
theorem dec_big {n : Nat} (h : ¬ n < 10) : dec n = dec (n / 10) ++ [dg n] := by rw [dec, if_neg h]
theorem dec_pad : ∀ (k n : Nat), (k = 0 ∨ 10 ^ k ≤ n) → n < 10 ^ (k + 1) → dec n = pad (k + 1) n
  | 0, n, _, h => by rw [dec_small (by omega), pad_one]
  | k + 1, n, h, h2 => by
    have h : 10 ^ (k + 1) ≤ n := by omega
    have h1 : 10 ≤ n := Nat.le_trans (by rw [Nat.pow_succ]; have : 0 < 10 ^ k := Nat.pow_pos (by decide); omega) h
    rw [dec_big (by omega), pad, dec_pad k (n / 10) (.inr (by rw [Nat.le_div_iff_mul_le (by decide)]; rw [Nat.pow_succ] at h; exact h)) (by rw [Nat.div_lt_iff_lt_mul (by decide)]; rw [Nat.pow_succ] at h2; exact h2)]
/-- How many digits. -/
theorem dec_len : ∀ (n : Nat), ∃ k, dec n = pad (k + 1) n ∧ (k = 0 ∨ 10 ^ k ≤ n) ∧ n < 10 ^ (k + 1) := by
  intro n
  induction n using Nat.strongRecOn with
  | _ n ih =>
    by_cases h : n < 10
    · exact ⟨0, by rw [dec_small h, pad_one], .inl rfl, by omega⟩
    · obtain ⟨k, e, h1, h2⟩ := ih (n / 10) (by omega)
      refine ⟨k + 1, by rw [dec_big h, e]; rfl, .inr ?_, ?_⟩
      · rcases h1 with rfl | h1
        · rw [Nat.pow_one]; omega
        · rw [Nat.pow_succ]; exact (Nat.le_div_iff_mul_le (by decide)).1 h1
      · rw [Nat.pow_succ]; exact (Nat.div_lt_iff_lt_mul (by decide)).1 h2
theorem dec_length_le {n k : Nat} (h : n < 10 ^ (k + 1)) : (dec n).length ≤ k + 1 := by
  obtain ⟨j, e, h1, h2⟩ := dec_len n
  rw [e, pad_len]
  rcases Nat.lt_or_ge k j with hj | hj
  · exfalso
    rcases h1 with h1 | h1
    · omega
    · have : 10 ^ (k + 1) ≤ 10 ^ j := Nat.pow_le_pow_right (by decide) hj
      omega
  · omega
theorem dec_ne (n : Nat) : dec n ≠ [] := by
  rw [dec]; split <;> simp
theorem dec_pos (n : Nat) : 0 < (dec n).length := List.length_pos_iff.2 (dec_ne n)
theorem pad_dg : ∀ (k n : Nat), (pad k n).all isDg = true
  | 0, _ => rfl
  | k + 1, n => by
    rw [pad, List.all_append, pad_dg k]
    have := dg_nat n
    simp [isDg]; omega
theorem dec_dg (n : Nat) : (dec n).all isDg = true := by
  obtain ⟨k, e, _⟩ := dec_len n
  rw [e]; exact pad_dg _ _
theorem val_snoc (l : List UInt8) (c : UInt8) : val (l ++ [c]) = val l * 10 + (c.toNat - 48) := by simp [val]
theorem val_dec (n : Nat) : val (dec n) = n := by
  induction n using Nat.strongRecOn with
  | _ n ih =>
    by_cases h : n < 10
    · rw [dec_small h]
      have := dg_nat n
      simp only [val, List.foldl_cons, List.foldl_nil]; omega
    · rw [dec_big h, val_snoc, ih _ (by omega), dg_nat]; omega
theorem dec_inj {m n : Nat} (h : dec m = dec n) : m = n := by rw [← val_dec m, h, val_dec]
theorem val_lt (l : List UInt8) (h : l.all isDg = true) : val l < 10 ^ l.length := by
  induction hl : l.length generalizing l with
  | zero => have : l = [] := List.length_eq_zero_iff.1 hl; subst this; simp [val]
  | succ k ih =>
    obtain ⟨m, c, rfl⟩ : ∃ m c, l = m ++ [c] := ⟨l.dropLast, l.getLast (by intro e; rw [e] at hl; cases hl), (List.dropLast_concat_getLast _).symm⟩
    rw [List.all_append, Bool.and_eq_true] at h
    have hm : m.length = k := by simpa using hl
    have := ih m h.1 hm
    have hc := h.2
    simp only [List.all_cons, List.all_nil, Bool.and_true, isDg, Bool.and_eq_true, decide_eq_true_eq] at hc
    rw [val_snoc, Nat.pow_succ]
    omega
theorem itoa_nn {n : Nat} : itoa (n : Int) = dec n := by
  unfold itoa; rw [if_neg (by omega)]; simp
theorem itoa_neg {n : Int} (h : n < 0) : itoa n = 45 :: dec n.natAbs := by unfold itoa; rw [if_pos h]
/-- A text is the number that it says, as it is written. -/
theorem itoa_eq_dec {n : Int} {u : Nat} (h : itoa n = dec u) : n = u := by
  unfold itoa at h
  split at h
  · exfalso
    have h1 := dec_dg u
    rw [← h] at h1
    simp [isDg] at h1
  · have := dec_inj h; omega
end Mir
