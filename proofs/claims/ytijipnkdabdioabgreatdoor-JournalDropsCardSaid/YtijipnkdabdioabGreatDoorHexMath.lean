/- Eight digits as plain mathematics. -/
import Derived.Test.YtijipnkdabdioabGreatDoorSumMath
namespace SumMath
def dig (d : Nat) : UInt8 := UInt8.ofNat (if d < 10 then 48 + d else 87 + d)
def hexOf (x : Nat) : List UInt8 := (List.range 8).map fun i => dig (x / 16 ^ (7 - i) % 16)
theorem hexOf_len (x : Nat) : (hexOf x).length = 8 := by simp [hexOf]
theorem hexOf_get (x : Nat) {i : Nat} (hi : i < 8) : (hexOf x)[i]? = some (dig (x / 16 ^ (7 - i) % 16)) := by
  rw [hexOf, List.getElem?_map, List.getElem?_range hi]; rfl
theorem dig_inj : ∀ a, a < 16 → ∀ b, b < 16 → dig a = dig b → a = b := by decide
theorem hexOf_inj {x y : Nat} (hx : x < 4294967296) (hy : y < 4294967296) (h : hexOf x = hexOf y) : x = y := by
  have g : ∀ i, i < 8 → x / 16 ^ (7 - i) % 16 = y / 16 ^ (7 - i) % 16 := fun i hi => by
    have h1 := hexOf_get x hi
    rw [h, hexOf_get y hi] at h1
    exact (dig_inj _ (Nat.mod_lt _ (by decide)) _ (Nat.mod_lt _ (by decide)) (Option.some.inj h1)).symm
  have g0 := g 0 (by decide); have g1 := g 1 (by decide); have g2 := g 2 (by decide); have g3 := g 3 (by decide)
  have g4 := g 4 (by decide); have g5 := g 5 (by decide); have g6 := g 6 (by decide); have g7 := g 7 (by decide)
  simp only [Nat.reduceSub, Nat.reducePow, Nat.div_one] at g0 g1 g2 g3 g4 g5 g6 g7
  omega
def isHex (c : UInt8) : Bool := (48 ≤ c.toNat && c.toNat ≤ 57) || (97 ≤ c.toNat && c.toNat ≤ 102)
theorem dig_hex : ∀ d, d < 16 → isHex (dig d) = true := by decide
theorem hexOf_hex (x : Nat) : (hexOf x).all isHex = true := by
  rw [List.all_eq_true]
  intro c hc
  obtain ⟨i, _, rfl⟩ := List.mem_map.1 hc
  exact dig_hex _ (Nat.mod_lt _ (by decide))
/-- What 'Check' answers. -/
def codeOf (s t : List UInt8) : Nat := if s.length = 8 ∧ s.all isHex = true then (if s = hexOf (sumOf t) then 0 else 4) else 3
end SumMath
