/- The sums of bytes as plain mathematics: no program, no memory. -/
namespace SumMath

/-- First half of the sum, not reduced. -/
def sa : Nat → List UInt8 → Nat
  | a, [] => a
  | a, c :: l => sa (a + c.toNat) l
/-- Second half, not reduced. -/
def sb : Nat → Nat → List UInt8 → Nat
  | _, b, [] => b
  | a, b, c :: l => sb (a + c.toNat) (b + (a + c.toNat)) l

theorem sa_append (a : Nat) (l m : List UInt8) : sa a (l ++ m) = sa (sa a l) m := by
  induction l generalizing a with
  | nil => rfl
  | cons c l ih => simp [sa, ih]
theorem sb_append (a b : Nat) (l m : List UInt8) : sb a b (l ++ m) = sb (sa a l) (sb a b l) m := by
  induction l generalizing a b with
  | nil => rfl
  | cons c l ih => simp [sa, sb, ih]
theorem sa_add (a : Nat) (l : List UInt8) : sa a l = a + sa 0 l := by
  induction l generalizing a with
  | nil => simp [sa]
  | cons c l ih => simp only [sa]; rw [ih (a + c.toNat), ih (0 + c.toNat)]; omega
theorem sb_add (a b : Nat) (l : List UInt8) : sb a b l = b + l.length * a + sb 0 0 l := by
  induction l generalizing a b with
  | nil => simp [sb]
  | cons c l ih =>
    simp only [sb, List.length_cons]
    rw [ih (a + c.toNat) (b + (a + c.toNat)), ih (0 + c.toNat) (0 + (0 + c.toNat))]
    have e1 : l.length * (a + c.toNat) = l.length * a + l.length * c.toNat := Nat.mul_add ..
    have e2 : l.length * (0 + c.toNat) = l.length * c.toNat := by simp
    have e3 : (l.length + 1) * a = l.length * a + a := Nat.succ_mul ..
    omega
theorem sa_le (a : Nat) (l : List UInt8) : sa a l ≤ a + l.length * 255 := by
  induction l generalizing a with
  | nil => simp [sa]
  | cons c l ih =>
    simp only [sa, List.length_cons]
    have := ih (a + c.toNat)
    have := c.toNat_lt
    omega
theorem sa_ge (a : Nat) (l : List UInt8) : a ≤ sa a l := by rw [sa_add]; omega
theorem sb_ge (a b : Nat) (l : List UInt8) : b ≤ sb a b l := by rw [sb_add]; omega
theorem sb_le (a b : Nat) (l : List UInt8) : sb a b l ≤ b + l.length * (a + l.length * 255) := by
  induction l generalizing a b with
  | nil => simp [sb]
  | cons c l ih =>
    simp only [sb, List.length_cons]
    have h1 := ih (a + c.toNat) (b + (a + c.toNat))
    have h2 := c.toNat_lt
    have h3 : l.length * (a + c.toNat + l.length * 255) ≤ l.length * (a + (l.length + 1) * 255) := Nat.mul_le_mul_left _ (by omega)
    have h4 : (l.length + 1) * (a + (l.length + 1) * 255) = l.length * (a + (l.length + 1) * 255) + (a + (l.length + 1) * 255) := Nat.succ_mul ..
    omega

theorem sa_mod (a : Nat) (l : List UInt8) : sa (a % 65521) l % 65521 = sa a l % 65521 := by
  rw [sa_add, sa_add a]; omega
theorem sb_mod (a b : Nat) (l : List UInt8) : sb (a % 65521) (b % 65521) l % 65521 = sb a b l % 65521 := by
  rw [sb_add, sb_add a]
  have h : l.length * (a % 65521) % 65521 = l.length * a % 65521 := by rw [Nat.mul_mod, Nat.mod_mod, ← Nat.mul_mod]
  omega
/-- The pair of the reduced halves. -/
def ha (l : List UInt8) : Nat := sa 1 l % 65521
def hb (l : List UInt8) : Nat := sb 1 0 l % 65521
def sumOf (l : List UInt8) : Nat := hb l * 65536 + ha l
theorem ha_lt (l : List UInt8) : ha l < 65521 := Nat.mod_lt _ (by decide)
theorem hb_lt (l : List UInt8) : hb l < 65521 := Nat.mod_lt _ (by decide)
theorem sumOf_eq (l m : List UInt8) : sumOf l = sumOf m ↔ ha l = ha m ∧ hb l = hb m := by
  have h1 := ha_lt l; have h2 := ha_lt m
  unfold sumOf
  constructor
  · intro h; omega
  · rintro ⟨e, f⟩; rw [e, f]

/-- The rules of joining. -/
def join (x y n : Nat) : Nat :=
  (x / 65536 + y / 65536 + n % 65521 * ((x % 65536 + 65520) % 65521)) % 65521 * 65536 + (x % 65536 + y % 65536 + 65520) % 65521
theorem join_sums (l m : List UInt8) : join (sumOf l) (sumOf m) m.length = sumOf (l ++ m) := by
  have a1 := ha_lt l; have a2 := ha_lt m; have b1 := hb_lt l; have b2 := hb_lt m
  have e1 : sumOf l / 65536 = hb l := by unfold sumOf; generalize ha l = p at *; generalize hb l = q at *; omega
  have e2 : sumOf m / 65536 = hb m := by unfold sumOf; omega
  have e3 : sumOf l % 65536 = ha l := by unfold sumOf; omega
  have e4 : sumOf m % 65536 = ha m := by unfold sumOf; omega
  unfold join
  rw [e1, e2, e3, e4]
  have hA : (ha l + ha m + 65520) % 65521 = ha (l ++ m) := by
    unfold ha; rw [sa_append, sa_add (sa 1 l) m, sa_add 1 m]; omega
  have hB : (hb l + hb m + m.length % 65521 * ((ha l + 65520) % 65521)) % 65521 = hb (l ++ m) := by
    have hm : (m.length % 65521 * ((ha l + 65520) % 65521)) % 65521 = (m.length * (ha l + 65520)) % 65521 := (Nat.mul_mod ..).symm
    have h0 : (m.length * (sa 1 l - 1)) % 65521 = (m.length * (ha l + 65520)) % 65521 := by
      have : (sa 1 l - 1) % 65521 = (ha l + 65520) % 65521 := by
        unfold ha; have := sa_ge 1 l; omega
      rw [Nat.mul_mod, this, ← Nat.mul_mod]
    have h1 : sb 1 0 (l ++ m) = sb 1 0 l + m.length * (sa 1 l - 1) + sb 1 0 m := by
      rw [sb_append, sb_add (sa 1 l) _ m, sb_add 1 0 m]
      have := sa_ge 1 l
      have : m.length * sa 1 l = m.length * (sa 1 l - 1) + m.length * 1 := by rw [← Nat.mul_add, Nat.sub_add_cancel (sa_ge 1 l)]
      omega
    unfold hb
    rw [h1]
    unfold hb at *
    omega
  rw [hA, hB, sumOf]

/-- One byte changed. -/
theorem changed (l m : List UInt8) (x c : UInt8) : sumOf (l ++ x :: m) = sumOf (l ++ c :: m) ↔ x = c := by
  constructor
  · intro h
    have h1 := ((sumOf_eq _ _).1 h).1
    unfold ha at h1
    rw [sa_append, sa_append] at h1
    simp only [sa] at h1
    rw [sa_add (sa 1 l + x.toNat), sa_add (sa 1 l + c.toNat)] at h1
    have := x.toNat_lt; have := c.toNat_lt
    exact UInt8.toNat_inj.1 (by omega)
  · rintro rfl; rfl
/-- Two bytes turned about. -/
theorem turned (l m : List UInt8) (x y : UInt8) : sumOf (l ++ x :: y :: m) = sumOf (l ++ y :: x :: m) ↔ x = y := by
  constructor
  · intro h
    have h1 := ((sumOf_eq _ _).1 h).2
    unfold hb at h1
    rw [sb_append, sb_append] at h1
    simp only [sb] at h1
    have e : sa 1 l + x.toNat + y.toNat = sa 1 l + y.toNat + x.toNat := by omega
    rw [sb_add (sa 1 l + x.toNat + y.toNat), sb_add (sa 1 l + y.toNat + x.toNat), e] at h1
    have := x.toNat_lt; have := y.toNat_lt
    exact UInt8.toNat_inj.1 (by omega)
  · rintro rfl; rfl

end SumMath
