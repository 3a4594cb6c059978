/- The journal, plainly: frames, what they are opened to. -/
import Derived.Test.YtijipnkdabdioabGreatDoorDec
import Derived.Test.YtijipnkdabdioabGreatDoorHexMath
namespace Mir
open SumMath
abbrev Txt' := List UInt8
def magic : List UInt8 := [115, 99, 114, 105, 98, 101, 32, 49, 32]
def frame (t : List UInt8) : List UInt8 := magic ++ dec t.length ++ [32] ++ hexOf (sumOf t) ++ [10] ++ t
/-- A text cut at a byte. -/
def cutB (c : UInt8) : List UInt8 → Option (List UInt8 × List UInt8)
  | [] => none
  | b :: l => if b = c then some ([], l) else (cutB c l).map fun p => (b :: p.1, p.2)
theorem cutB_none {c : UInt8} : ∀ {s : List UInt8}, c ∉ s → cutB c s = none
  | [], _ => rfl
  | b :: s, h => by
    have h1 : ¬ b = c := fun e => h (e ▸ List.mem_cons_self)
    have h2 := cutB_none (s := s) fun e => h (List.mem_cons_of_mem _ e)
    simp [cutB, h1, h2]
theorem cutB_some {c : UInt8} : ∀ {l r : List UInt8}, c ∉ l → cutB c (l ++ c :: r) = some (l, r)
  | [], r, _ => by simp [cutB]
  | b :: l, r, h => by
    have h1 : ¬ b = c := fun e => h (e ▸ List.mem_cons_self)
    have h2 := cutB_some (l := l) (r := r) fun e => h (List.mem_cons_of_mem _ e)
    simp [cutB, h1, h2]
/-- Is it a number from 0 on, as it is written, that an int holds? -/
def NumOk (l : List UInt8) : Prop := l = dec (val l) ∧ val l < 9223372036854775808
instance (l : List UInt8) : Decidable (NumOk l) := inferInstanceAs (Decidable (_ ∧ _))
def bodyOf (number hex t : List UInt8) : List UInt8 × Nat :=
  if NumOk number then
    if t.length < val number then ([], 2) else if val number < t.length then ([], 3) else if codeOf hex t = 0 then (t, 0) else ([], codeOf hex t)
  else ([], 3)
def headOf (head t : List UInt8) : List UInt8 × Nat := match cutB 32 head with
  | none => ([], 3)
  | some (number, hex) => bodyOf number hex t
def restOf (rest : List UInt8) : List UInt8 × Nat := match cutB 10 rest with
  | none => ([], 2)
  | some (head, t) => headOf head t
def opened (s : List UInt8) : List UInt8 × Nat :=
  if magic.isPrefixOf s then restOf (s.drop 9) else if s.isPrefixOf magic then ([], 2) else ([], 3)
theorem dec_numOk {n : Nat} (h : n < 9223372036854775808) : NumOk (dec n) := by
  unfold NumOk; rw [val_dec]; exact ⟨rfl, h⟩
theorem not_mem_dec {n : Nat} {c : UInt8} (h : c.toNat < 48 ∨ 57 < c.toNat) : c ∉ dec n := fun hm => by
  have := List.all_eq_true.1 (dec_dg n) c hm
  simp [isDg] at this; omega
theorem not_mem_hex {x : Nat} {c : UInt8} (h : isHex c = false) : c ∉ hexOf x := fun hm => by
  have := List.all_eq_true.1 (hexOf_hex x) c hm
  rw [h] at this; cases this
theorem opened_frame (t : List UInt8) (h : t.length < 9223372036854775808) : opened (frame t) = (t, 0) := by
  unfold opened frame
  have h1 : magic.isPrefixOf (magic ++ dec t.length ++ [32] ++ hexOf (sumOf t) ++ [10] ++ t) = true := by
    rw [List.isPrefixOf_iff_prefix]; simp
  rw [if_pos h1]
  have h2 : List.drop 9 (magic ++ dec t.length ++ [32] ++ hexOf (sumOf t) ++ [10] ++ t) = (dec t.length ++ 32 :: hexOf (sumOf t)) ++ 10 :: t := by simp [magic]
  rw [h2]
  unfold restOf
  rw [cutB_some]
  · unfold headOf
    simp only
    rw [cutB_some (not_mem_dec (.inl (by decide)))]
    unfold bodyOf
    simp only
    rw [if_pos (dec_numOk h), val_dec, if_neg (by omega), if_neg (by omega)]
    have : codeOf (hexOf (sumOf t)) t = 0 := by
      unfold codeOf; rw [if_pos ⟨hexOf_len _, hexOf_hex _⟩, if_pos rfl]
    rw [if_pos this]
  · simp only [List.mem_append, List.mem_cons, not_or]
    exact ⟨not_mem_dec (.inl (by decide)), by decide, not_mem_hex (by decide)⟩
end Mir
