import Derived.Test.YtipnnfmgecbefaaGreatDoorMir31
/- A text in another one, and Rabin-Karp's sums. No program in sight. -/
namespace Mir
open Go
/-- Does t stand in s at i? -/
def occ (t s : List UInt8) (i : Nat) : Prop := (s.take (i + t.length)).drop i = t
instance (t s : List UInt8) (i : Nat) : Decidable (occ t s i) := inferInstanceAs (Decidable (_ = _))
theorem idxS_none {t s : List UInt8} (h : ∀ i, i + t.length ≤ s.length → ¬ occ t s i) : idxS t s = -1 := by
  unfold idxS
  rw [List.find?_eq_none.2]
  intro i hi
  rw [List.mem_range] at hi
  simp only [beq_iff_eq]
  exact h i (by omega)
theorem idxS_at {t s : List UInt8} {i : Nat} (hi : i + t.length ≤ s.length) (h : occ t s i) (hn : ∀ j, j < i → ¬ occ t s j) : idxS t s = i := by
  unfold idxS
  have : (List.range (s.length + 1 - t.length)).find? (fun i => (s.take (i + t.length)).drop i == t) = some i := by
    rw [List.find?_eq_some_iff_append]
    refine ⟨by simpa [occ] using h, List.range i, (List.range (s.length + 1 - t.length - i - 1)).map (· + (i + 1)), ?_, fun j hj => ?_⟩
    · apply List.ext_getElem
      · simp; omega
      · intro k h1 h2
        simp only [List.getElem_range]
        rcases Nat.lt_or_ge k i with c | c
        · rw [List.getElem_append_left (by simpa using c)]; simp
        · rw [List.getElem_append_right (by simpa using c)]
          simp only [List.length_range]
          rcases Nat.eq_zero_or_pos (k - i) with c2 | c2
          · simp [c2]; omega
          · obtain ⟨m, hm⟩ := Nat.exists_eq_succ_of_ne_zero (Nat.pos_iff_ne_zero.1 c2)
            simp only [hm, Nat.succ_eq_add_one, List.getElem_cons_succ, List.getElem_map, List.getElem_range]; omega
    · rw [List.mem_range] at hj
      simpa [occ] using hn j hj
  rw [this]
theorem idxS_cases (t s : List UInt8) : (idxS t s = -1 ∧ ∀ i, i + t.length ≤ s.length → ¬ occ t s i) ∨ ∃ i : Nat, idxS t s = i ∧ i + t.length ≤ s.length ∧ occ t s i ∧ ∀ j, j < i → ¬ occ t s j := by
  cases e : (List.range (s.length + 1 - t.length)).find? (fun i => (s.take (i + t.length)).drop i == t) with
  | none =>
    refine .inl ⟨by simp [idxS, e], fun i hi => ?_⟩
    have := List.find?_eq_none.1 e i (List.mem_range.2 (by omega))
    simpa [occ] using this
  | some i =>
    obtain ⟨h1, as, bs, h2, h3⟩ := List.find?_eq_some_iff_append.1 e
    have hi : i = as.length := by
      have : (List.range (s.length + 1 - t.length))[as.length]? = some i := by rw [h2]; simp
      obtain ⟨h4, h5⟩ := List.getElem?_eq_some_iff.1 this
      simpa using h5.symm
    have hl : i < s.length + 1 - t.length := by
      have : i ∈ List.range (s.length + 1 - t.length) := by rw [h2]; simp
      exact List.mem_range.1 this
    refine .inr ⟨i, by simp [idxS, e], by omega, by simpa [occ] using h1, fun j hj => ?_⟩
    have : as[j]? = some j := by
      have : (List.range (s.length + 1 - t.length))[j]? = some j := by rw [List.getElem?_range (by omega)]
      rw [h2, List.getElem?_append_left (by omega)] at this
      exact this
    have := h3 j (List.mem_of_getElem? this)
    simpa [occ] using this
theorem occ_drop {t s : List UInt8} (k i : Nat) : occ t (s.drop k) i ↔ occ t s (k + i) := by
  unfold occ
  rw [List.take_drop, List.drop_drop, show k + (i + t.length) = k + i + t.length from by omega]
theorem occ_len {t s : List UInt8} {i : Nat} (h : occ t s i) (ht : t ≠ []) : i + t.length ≤ s.length := by
  have := congrArg List.length h
  simp only [List.length_drop, List.length_take] at this
  have : 0 < t.length := List.length_pos_iff.2 ht
  omega
/-- Where a text stands its bytes do. -/
theorem occ_get {t s : List UInt8} {i : Nat} (h : occ t s i) (k : Nat) (hk : k < t.length) : s[i + k]? = t[k]? := by
  conv => rhs; rw [← h]
  rw [List.getElem?_drop, List.getElem?_take_of_lt (by omega)]

/-! Rabin-Karp. -/
def rkP : Int := 16777619
def rkM : Int := 4294967296
def rkS (l : List UInt8) : Int := l.foldl (fun h c => h * rkP + (c.toNat : Nat)) 0
theorem rkS_nil : rkS [] = 0 := rfl
theorem rkS_snoc (l : List UInt8) (c : UInt8) : rkS (l ++ [c]) = rkS l * rkP + (c.toNat : Nat) := by simp [rkS]
theorem rk_from (l : List UInt8) : ∀ (a : Int), l.foldl (fun h c => h * rkP + ((c.toNat : Nat) : Int)) a = a * rkP ^ l.length + rkS l := by
  induction l with
  | nil => intro a; simp [rkS]
  | cons c l ih =>
    intro a
    have e1 := ih (a * rkP + ((c.toNat : Nat) : Int))
    have e3 : rkS (c :: l) = (0 * rkP + ((c.toNat : Nat) : Int)) * rkP ^ l.length + rkS l := ih (0 * rkP + ((c.toNat : Nat) : Int))
    rw [List.foldl_cons, e1, e3, List.length_cons, Int.pow_succ, Int.add_mul, Int.zero_mul, Int.zero_add, Int.mul_assoc, Int.mul_comm rkP, Int.add_assoc]
theorem rkS_cons (c : UInt8) (l : List UInt8) : rkS (c :: l) = (c.toNat : Nat) * rkP ^ l.length + rkS l := by
  rw [rkS, List.foldl_cons, rk_from]; simp
theorem u32_mod (n : Int) : IntKind.u32.wrap n = n % rkM := by
  simp only [IntKind.wrap, IntKind.bits, IntKind.signed, Bool.false_and, if_false, Bool.false_eq_true]
  rfl
theorem mod_roll {h pow : Int} {c x : Int} {n : Nat} {w l : Int} (hh : h = w % rkM) (hp : pow = rkP ^ n % rkM) (hw : w = c * rkP ^ (n - 1) + l) (hn : 0 < n) :
    ((h * rkP % rkM + x) % rkM - pow * c % rkM) % rkM = (l * rkP + x) % rkM := by
  have e : w * rkP = l * rkP + rkP ^ n * c := by
    obtain ⟨k, rfl⟩ := Nat.exists_eq_succ_of_ne_zero (Nat.pos_iff_ne_zero.1 hn)
    rw [hw, Nat.succ_eq_add_one, Nat.add_sub_cancel, Int.pow_succ, Int.add_mul, Int.mul_assoc c, Int.mul_comm c, Int.add_comm]
  have e2 : pow * c = rkP ^ n * c - 4294967296 * (rkP ^ n / rkM * c) := by
    rw [hp, Int.emod_def, Int.sub_mul, Int.mul_assoc]; rfl
  generalize rkP ^ n * c = A at *
  generalize rkP ^ n / rkM * c = B at *
  rw [e2, hh]
  simp only [rkP, rkM] at *
  omega
/-- The n bytes ahead of place i. -/
def win (s : List UInt8) (n i : Nat) : List UInt8 := (s.take i).drop (i - n)
theorem win_step {s : List UInt8} {n i : Nat} {x c : UInt8} (hn : 0 < n) (hi : n ≤ i) (hx : s[i]? = some x) (hc : s[i - n]? = some c) : ∃ l, win s n i = c :: l ∧ l.length = n - 1 ∧ win s n (i + 1) = l ++ [x] := by
  have hl : i < s.length := (List.getElem?_eq_some_iff.1 hx).1
  refine ⟨(s.take i).drop (i - n + 1), ?_, ?_, ?_⟩
  · unfold win
    have h1 : i - n < (s.take i).length := by rw [List.length_take]; omega
    rw [List.drop_eq_getElem_cons h1]
    congr 1
    have : (s.take i)[i - n]? = some c := by rw [List.getElem?_take_of_lt (by omega)]; exact hc
    rw [List.getElem?_eq_getElem h1] at this
    exact Option.some.inj this
  · rw [List.length_drop, List.length_take]; omega
  · unfold win
    rw [List.take_add_one, hx, show i + 1 - n = i - n + 1 from by omega, List.drop_append_of_le_length (by rw [List.length_take]; omega)]; rfl
theorem occ_win {t s : List UInt8} {i : Nat} (h : t.length ≤ i) : occ t s (i - t.length) ↔ win s t.length i = t := by
  unfold occ win; rw [show i - t.length + t.length = i from by omega]
theorem idxS_after {t s : List UInt8} {p : Nat} (h : ∀ j, j < p + 1 → ¬ occ t s j) : idxS t (s.drop (p + 1)) = if idxS t s = -1 then -1 else idxS t s - ((p : Nat) + 1) := by
  rcases idxS_cases t s with ⟨e, hn⟩ | ⟨i, e, hi, ho, hn⟩
  · rw [e, if_pos rfl]
    refine idxS_none fun j hj => ?_
    rw [List.length_drop] at hj
    rw [occ_drop]
    rcases Nat.lt_or_ge s.length (p + 1 + j + t.length) with c | c
    · intro ho
      have := congrArg List.length ho
      rw [List.length_drop, List.length_take] at this
      have h0 : t.length = 0 := by omega
      have : t = [] := List.length_eq_zero_iff.1 h0
      subst this
      exact hn 0 (by simp) (by unfold occ; simp)
    · exact hn _ (by omega)
  · rw [e, if_neg (by omega)]
    have hip : p + 1 ≤ i := by
      rcases Nat.lt_or_ge i (p + 1) with c | c
      · exact absurd ho (h i c)
      · exact c
    rw [idxS_at (i := i - (p + 1)) (by rw [List.length_drop]; omega) (by rw [occ_drop, show p + 1 + (i - (p + 1)) = i from by omega]; exact ho) (fun j hj => by rw [occ_drop]; exact hn _ (by omega))]
    omega
theorem idxS_after' {t s : List UInt8} {p : Nat} (h : ∀ j, j < p + 1 → ¬ occ t s j) (hn : idxS t s ≠ -1) : ((p : Nat) : Int) + 1 ≤ idxS t s ∧ idxS t s ≤ s.length := by
  rcases idxS_cases t s with ⟨e, _⟩ | ⟨i, e, hi, ho, _⟩
  · exact absurd e hn
  · rcases Nat.lt_or_ge i (p + 1) with c | c
    · exact absurd ho (h i c)
    · omega
end Mir
