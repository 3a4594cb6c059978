/- Walks that serve several seats: numbers as digits. -/
import Derived.Test.YtijipnkdabdioabGreatDoorP
import Derived.Test.YtijipnkdabdioabGreatDoorDec
import Derived.Test.YtijipnkdabdioabGreatDoorMir31
set_option linter.unusedSimpArgs false
set_option linter.unusedVariables false
namespace Go.Proofs.YtijipnkdabdioabGreatDoor
open Mir
variable {h : H} {Q : V → H → Prop}
theorem wrap_u8m {x : Int} : IntKind.u8.wrap x = x % 256 := by simp [IntKind.wrap, IntKind.bits, IntKind.signed]
theorem wrap_u32m {x : Int} : IntKind.u32.wrap x = x % 4294967296 := by simp [IntKind.wrap, IntKind.bits, IntKind.signed]
theorem wrap_u64m {x : Int} : IntKind.u64.wrap x = x % 18446744073709551616 := by simp [IntKind.wrap, IntKind.bits, IntKind.signed]
theorem shr64 {a : Int} {k : Nat} (hk : k ≤ 64) (h0 : 0 ≤ a) : ishr .u64 a (k : Int) = a / (2 ^ k : Nat) := by
  unfold ishr
  rw [show min ((k : Int).toNat) IntKind.u64.bits = k from by show min _ 64 = k; omega, Int.fdiv_eq_ediv_of_nonneg _ (by exact_mod_cast Nat.zero_le _)]
  simp
/-- A byte of a long text. -/
theorem goP_tab {call : CP} {K : A → H → Prop} {a : A} {dd : Option Nat} {l : List IOp} {T : List UInt8} {n i : Nat} {f : UInt8 → V} {g : Nat → Nat} (hT : ∀ i < n, (T[i]?).map UInt8.toNat = some (g i)) (hi : i < n) (x : ∀ c : UInt8, c.toNat = g i → goP (some (f c)) dd call l a h K) : goP ((T[i]?).map f) dd call l a h K := by
  have e := hT i hi
  cases hc : T[i]? with
  | none => rw [hc] at e; cases e
  | some c => rw [hc] at e; exact x c (Option.some.inj e)
def blen (n : Nat) : Nat := if n = 0 then 0 else Nat.log2 n + 1
theorem tab_blen : ∀ i < 256, (([0, 1, 2, 2, 3, 3, 3, 3, 4, 4, 4, 4, 4, 4, 4, 4, 5, 5, 5, 5, 5, 5, 5, 5, 5, 5, 5, 5, 5, 5, 5, 5, 6, 6, 6, 6, 6, 6, 6, 6, 6, 6, 6, 6, 6, 6, 6, 6, 6, 6, 6, 6, 6, 6, 6, 6, 6, 6, 6, 6, 6, 6, 6, 6, 7, 7, 7, 7, 7, 7, 7, 7, 7, 7, 7, 7, 7, 7, 7, 7, 7, 7, 7, 7, 7, 7, 7, 7, 7, 7, 7, 7, 7, 7, 7, 7, 7, 7, 7, 7, 7, 7, 7, 7, 7, 7, 7, 7, 7, 7, 7, 7, 7, 7, 7, 7, 7, 7, 7, 7, 7, 7, 7, 7, 7, 7, 7, 7, 8, 8, 8, 8, 8, 8, 8, 8, 8, 8, 8, 8, 8, 8, 8, 8, 8, 8, 8, 8, 8, 8, 8, 8, 8, 8, 8, 8, 8, 8, 8, 8, 8, 8, 8, 8, 8, 8, 8, 8, 8, 8, 8, 8, 8, 8, 8, 8, 8, 8, 8, 8, 8, 8, 8, 8, 8, 8, 8, 8, 8, 8, 8, 8, 8, 8, 8, 8, 8, 8, 8, 8, 8, 8, 8, 8, 8, 8, 8, 8, 8, 8, 8, 8, 8, 8, 8, 8, 8, 8, 8, 8, 8, 8, 8, 8, 8, 8, 8, 8, 8, 8, 8, 8, 8, 8, 8, 8, 8, 8, 8, 8, 8, 8, 8, 8, 8, 8, 8, 8, 8, 8, 8, 8, 8, 8, 8, 8] : List UInt8)[i]?).map UInt8.toNat = some (blen i) := by decide +kernel
theorem blen_small : ∀ i < 256, i ≠ 0 → 1 ≤ blen i ∧ blen i ≤ 8 ∧ 2 ^ (blen i - 1) ≤ i ∧ i < 2 ^ blen i := by decide +kernel
theorem shift_len {u c : Nat} (n : Nat) (h1 : 1 ≤ c) (h2 : 2 ^ (c - 1) ≤ u / 2 ^ n) (h3 : u / 2 ^ n < 2 ^ c) : 2 ^ (c + n - 1) ≤ u ∧ u < 2 ^ (c + n) := by
  have hp : 0 < 2 ^ n := Nat.pow_pos (by decide)
  constructor
  · rw [show c + n - 1 = (c - 1) + n from by omega, Nat.pow_add]
    exact (Nat.le_div_iff_mul_le hp).1 h2
  · rw [Nat.pow_add]
    exact (Nat.div_lt_iff_lt_mul hp).1 h3
set_option maxRecDepth 100000 in
theorem len64_ac (u : Nat) (h0 : u ≠ 0) (h1 : u < 18446744073709551616) (hq : ∀ L : Nat, 1 ≤ L → L ≤ 64 → 2 ^ (L - 1) ≤ u → u < 2 ^ L → Q (.int .i64 (L : Nat)) h) : AC pg (.fn 75) [.int .u64 (u : Nat)] h Q := by
  have fin : ∀ (n : Nat) (c : UInt8) (x : Nat), u / 2 ^ n = x → x < 256 → x ≠ 0 → n ≤ 56 → c.toNat = blen x → Q (.int .i64 ((n : Nat) + (c.toNat : Nat))) h := fun n c x e1 e2 e3 e4 e5 => by
    obtain ⟨b1, b2, b3, b4⟩ := blen_small x e2 e3
    rw [← e1] at b3 b4
    rw [e1] at b3 b4
    have := shift_len (u := u) (c := blen x) n b1 (by rw [e1]; exact b3) (by rw [e1]; exact b4)
    have q := hq (blen x + n) (by omega) (by omega) this.1 this.2
    rw [e5, show ((n : Nat) : Int) + ((blen x : Nat) : Int) = ((blen x + n : Nat) : Int) from by omega]
    exact q
  refine AC.fn' (g := g75) rfl (by simp only [List.length_cons, List.length_nil, g75]; decide) ?_; simp only [g75]
  have s32 : ∀ a : Int, 0 ≤ a → ishr .u64 a 32 = a / 4294967296 := fun a ha => shr64 (k := 32) (by decide) ha
  have s16 : ∀ a : Int, 0 ≤ a → ishr .u64 a 16 = a / 65536 := fun a ha => shr64 (k := 16) (by decide) ha
  have s8 : ∀ a : Int, 0 ≤ a → ishr .u64 a 8 = a / 256 := fun a ha => shr64 (k := 8) (by decide) ha
  by_cases c0 : 4294967296 ≤ u
  · by_cases c1 : 65536 ≤ u / 4294967296
    · by_cases c2 : 256 ≤ u / 4294967296 / 65536
      · ((try simp -implicitDefEqProofs only [later, laterE, laterD, laterR]); (repeat (first | simp -implicitDefEqProofs only [go_sem, ↓reduceIte, Nat.reduceEqDiff, Nat.reduceAdd, Nat.reduceLeDiff, Nat.reduceLT, Nat.reduceMul, reduceCtorEq, Int.reduceEq, Int.reduceLT, Int.reduceLE, Int.reduceNeg, Int.reduceToNat, Int.reduceMul, Int.reduceAdd, Int.reduceSub, s32 ((u : Int)) (by omega), s16 ((u : Int) / 4294967296) (by omega), s8 ((u : Int) / 4294967296 / 65536) (by omega), wrap_u8m] | simp (disch := (first | omega | (simp only [go_sem]; done) | (simp only [lens]; omega))) only [cds, s32 ((u : Int)) (by omega), s16 ((u : Int) / 4294967296) (by omega), s8 ((u : Int) / 4294967296 / 65536) (by omega), wrap_u8m])))
        refine goP_tab tab_blen (by omega) fun c hc => ?_
        have hlt := c.toNat_lt
        have q := fin 56 c _ (by omega) (by omega) (by omega) (by omega) hc
        ((try simp -implicitDefEqProofs only [later, laterE, laterD, laterR]); (repeat (first | simp -implicitDefEqProofs only [go_sem, ↓reduceIte, Nat.reduceEqDiff, Nat.reduceAdd, Nat.reduceLeDiff, Nat.reduceLT, Nat.reduceMul, reduceCtorEq, Int.reduceEq, Int.reduceLT, Int.reduceLE, Int.reduceNeg, Int.reduceToNat, Int.reduceMul, Int.reduceAdd, Int.reduceSub] | simp (disch := (first | omega | (simp only [go_sem]; done) | (simp only [lens]; omega))) only [cds])))
        exact ⟨_, Sub.refl, q⟩
      · ((try simp -implicitDefEqProofs only [later, laterE, laterD, laterR]); (repeat (first | simp -implicitDefEqProofs only [go_sem, ↓reduceIte, Nat.reduceEqDiff, Nat.reduceAdd, Nat.reduceLeDiff, Nat.reduceLT, Nat.reduceMul, reduceCtorEq, Int.reduceEq, Int.reduceLT, Int.reduceLE, Int.reduceNeg, Int.reduceToNat, Int.reduceMul, Int.reduceAdd, Int.reduceSub, s32 ((u : Int)) (by omega), s16 ((u : Int) / 4294967296) (by omega), wrap_u8m] | simp (disch := (first | omega | (simp only [go_sem]; done) | (simp only [lens]; omega))) only [cds, s32 ((u : Int)) (by omega), s16 ((u : Int) / 4294967296) (by omega), wrap_u8m])))
        refine goP_tab tab_blen (by omega) fun c hc => ?_
        have hlt := c.toNat_lt
        have q := fin 48 c _ (by omega) (by omega) (by omega) (by omega) hc
        ((try simp -implicitDefEqProofs only [later, laterE, laterD, laterR]); (repeat (first | simp -implicitDefEqProofs only [go_sem, ↓reduceIte, Nat.reduceEqDiff, Nat.reduceAdd, Nat.reduceLeDiff, Nat.reduceLT, Nat.reduceMul, reduceCtorEq, Int.reduceEq, Int.reduceLT, Int.reduceLE, Int.reduceNeg, Int.reduceToNat, Int.reduceMul, Int.reduceAdd, Int.reduceSub] | simp (disch := (first | omega | (simp only [go_sem]; done) | (simp only [lens]; omega))) only [cds])))
        exact ⟨_, Sub.refl, q⟩
    · by_cases c2 : 256 ≤ u / 4294967296
      · ((try simp -implicitDefEqProofs only [later, laterE, laterD, laterR]); (repeat (first | simp -implicitDefEqProofs only [go_sem, ↓reduceIte, Nat.reduceEqDiff, Nat.reduceAdd, Nat.reduceLeDiff, Nat.reduceLT, Nat.reduceMul, reduceCtorEq, Int.reduceEq, Int.reduceLT, Int.reduceLE, Int.reduceNeg, Int.reduceToNat, Int.reduceMul, Int.reduceAdd, Int.reduceSub, s32 ((u : Int)) (by omega), s8 ((u : Int) / 4294967296) (by omega), wrap_u8m] | simp (disch := (first | omega | (simp only [go_sem]; done) | (simp only [lens]; omega))) only [cds, s32 ((u : Int)) (by omega), s8 ((u : Int) / 4294967296) (by omega), wrap_u8m])))
        refine goP_tab tab_blen (by omega) fun c hc => ?_
        have hlt := c.toNat_lt
        have q := fin 40 c _ (by omega) (by omega) (by omega) (by omega) hc
        ((try simp -implicitDefEqProofs only [later, laterE, laterD, laterR]); (repeat (first | simp -implicitDefEqProofs only [go_sem, ↓reduceIte, Nat.reduceEqDiff, Nat.reduceAdd, Nat.reduceLeDiff, Nat.reduceLT, Nat.reduceMul, reduceCtorEq, Int.reduceEq, Int.reduceLT, Int.reduceLE, Int.reduceNeg, Int.reduceToNat, Int.reduceMul, Int.reduceAdd, Int.reduceSub] | simp (disch := (first | omega | (simp only [go_sem]; done) | (simp only [lens]; omega))) only [cds])))
        exact ⟨_, Sub.refl, q⟩
      · ((try simp -implicitDefEqProofs only [later, laterE, laterD, laterR]); (repeat (first | simp -implicitDefEqProofs only [go_sem, ↓reduceIte, Nat.reduceEqDiff, Nat.reduceAdd, Nat.reduceLeDiff, Nat.reduceLT, Nat.reduceMul, reduceCtorEq, Int.reduceEq, Int.reduceLT, Int.reduceLE, Int.reduceNeg, Int.reduceToNat, Int.reduceMul, Int.reduceAdd, Int.reduceSub, s32 ((u : Int)) (by omega), wrap_u8m] | simp (disch := (first | omega | (simp only [go_sem]; done) | (simp only [lens]; omega))) only [cds, s32 ((u : Int)) (by omega), wrap_u8m])))
        refine goP_tab tab_blen (by omega) fun c hc => ?_
        have hlt := c.toNat_lt
        have q := fin 32 c _ (by omega) (by omega) (by omega) (by omega) hc
        ((try simp -implicitDefEqProofs only [later, laterE, laterD, laterR]); (repeat (first | simp -implicitDefEqProofs only [go_sem, ↓reduceIte, Nat.reduceEqDiff, Nat.reduceAdd, Nat.reduceLeDiff, Nat.reduceLT, Nat.reduceMul, reduceCtorEq, Int.reduceEq, Int.reduceLT, Int.reduceLE, Int.reduceNeg, Int.reduceToNat, Int.reduceMul, Int.reduceAdd, Int.reduceSub] | simp (disch := (first | omega | (simp only [go_sem]; done) | (simp only [lens]; omega))) only [cds])))
        exact ⟨_, Sub.refl, q⟩
  · by_cases c1 : 65536 ≤ u
    · by_cases c2 : 256 ≤ u / 65536
      · ((try simp -implicitDefEqProofs only [later, laterE, laterD, laterR]); (repeat (first | simp -implicitDefEqProofs only [go_sem, ↓reduceIte, Nat.reduceEqDiff, Nat.reduceAdd, Nat.reduceLeDiff, Nat.reduceLT, Nat.reduceMul, reduceCtorEq, Int.reduceEq, Int.reduceLT, Int.reduceLE, Int.reduceNeg, Int.reduceToNat, Int.reduceMul, Int.reduceAdd, Int.reduceSub, s16 ((u : Int)) (by omega), s8 ((u : Int) / 65536) (by omega), wrap_u8m] | simp (disch := (first | omega | (simp only [go_sem]; done) | (simp only [lens]; omega))) only [cds, s16 ((u : Int)) (by omega), s8 ((u : Int) / 65536) (by omega), wrap_u8m])))
        refine goP_tab tab_blen (by omega) fun c hc => ?_
        have hlt := c.toNat_lt
        have q := fin 24 c _ (by omega) (by omega) (by omega) (by omega) hc
        ((try simp -implicitDefEqProofs only [later, laterE, laterD, laterR]); (repeat (first | simp -implicitDefEqProofs only [go_sem, ↓reduceIte, Nat.reduceEqDiff, Nat.reduceAdd, Nat.reduceLeDiff, Nat.reduceLT, Nat.reduceMul, reduceCtorEq, Int.reduceEq, Int.reduceLT, Int.reduceLE, Int.reduceNeg, Int.reduceToNat, Int.reduceMul, Int.reduceAdd, Int.reduceSub] | simp (disch := (first | omega | (simp only [go_sem]; done) | (simp only [lens]; omega))) only [cds])))
        exact ⟨_, Sub.refl, q⟩
      · ((try simp -implicitDefEqProofs only [later, laterE, laterD, laterR]); (repeat (first | simp -implicitDefEqProofs only [go_sem, ↓reduceIte, Nat.reduceEqDiff, Nat.reduceAdd, Nat.reduceLeDiff, Nat.reduceLT, Nat.reduceMul, reduceCtorEq, Int.reduceEq, Int.reduceLT, Int.reduceLE, Int.reduceNeg, Int.reduceToNat, Int.reduceMul, Int.reduceAdd, Int.reduceSub, s16 ((u : Int)) (by omega), wrap_u8m] | simp (disch := (first | omega | (simp only [go_sem]; done) | (simp only [lens]; omega))) only [cds, s16 ((u : Int)) (by omega), wrap_u8m])))
        refine goP_tab tab_blen (by omega) fun c hc => ?_
        have hlt := c.toNat_lt
        have q := fin 16 c _ (by omega) (by omega) (by omega) (by omega) hc
        ((try simp -implicitDefEqProofs only [later, laterE, laterD, laterR]); (repeat (first | simp -implicitDefEqProofs only [go_sem, ↓reduceIte, Nat.reduceEqDiff, Nat.reduceAdd, Nat.reduceLeDiff, Nat.reduceLT, Nat.reduceMul, reduceCtorEq, Int.reduceEq, Int.reduceLT, Int.reduceLE, Int.reduceNeg, Int.reduceToNat, Int.reduceMul, Int.reduceAdd, Int.reduceSub] | simp (disch := (first | omega | (simp only [go_sem]; done) | (simp only [lens]; omega))) only [cds])))
        exact ⟨_, Sub.refl, q⟩
    · by_cases c2 : 256 ≤ u
      · ((try simp -implicitDefEqProofs only [later, laterE, laterD, laterR]); (repeat (first | simp -implicitDefEqProofs only [go_sem, ↓reduceIte, Nat.reduceEqDiff, Nat.reduceAdd, Nat.reduceLeDiff, Nat.reduceLT, Nat.reduceMul, reduceCtorEq, Int.reduceEq, Int.reduceLT, Int.reduceLE, Int.reduceNeg, Int.reduceToNat, Int.reduceMul, Int.reduceAdd, Int.reduceSub, s8 ((u : Int)) (by omega), wrap_u8m] | simp (disch := (first | omega | (simp only [go_sem]; done) | (simp only [lens]; omega))) only [cds, s8 ((u : Int)) (by omega), wrap_u8m])))
        refine goP_tab tab_blen (by omega) fun c hc => ?_
        have hlt := c.toNat_lt
        have q := fin 8 c _ (by omega) (by omega) (by omega) (by omega) hc
        ((try simp -implicitDefEqProofs only [later, laterE, laterD, laterR]); (repeat (first | simp -implicitDefEqProofs only [go_sem, ↓reduceIte, Nat.reduceEqDiff, Nat.reduceAdd, Nat.reduceLeDiff, Nat.reduceLT, Nat.reduceMul, reduceCtorEq, Int.reduceEq, Int.reduceLT, Int.reduceLE, Int.reduceNeg, Int.reduceToNat, Int.reduceMul, Int.reduceAdd, Int.reduceSub] | simp (disch := (first | omega | (simp only [go_sem]; done) | (simp only [lens]; omega))) only [cds])))
        exact ⟨_, Sub.refl, q⟩
      · ((try simp -implicitDefEqProofs only [later, laterE, laterD, laterR]); (repeat (first | simp -implicitDefEqProofs only [go_sem, ↓reduceIte, Nat.reduceEqDiff, Nat.reduceAdd, Nat.reduceLeDiff, Nat.reduceLT, Nat.reduceMul, reduceCtorEq, Int.reduceEq, Int.reduceLT, Int.reduceLE, Int.reduceNeg, Int.reduceToNat, Int.reduceMul, Int.reduceAdd, Int.reduceSub, wrap_u8m] | simp (disch := (first | omega | (simp only [go_sem]; done) | (simp only [lens]; omega))) only [cds, wrap_u8m])))
        refine goP_tab tab_blen (by omega) fun c hc => ?_
        have hlt := c.toNat_lt
        have q := fin 0 c _ (by omega) (by omega) (by omega) (by omega) hc
        ((try simp -implicitDefEqProofs only [later, laterE, laterD, laterR]); (repeat (first | simp -implicitDefEqProofs only [go_sem, ↓reduceIte, Nat.reduceEqDiff, Nat.reduceAdd, Nat.reduceLeDiff, Nat.reduceLT, Nat.reduceMul, reduceCtorEq, Int.reduceEq, Int.reduceLT, Int.reduceLE, Int.reduceNeg, Int.reduceToNat, Int.reduceMul, Int.reduceAdd, Int.reduceSub] | simp (disch := (first | omega | (simp only [go_sem]; done) | (simp only [lens]; omega))) only [cds])))
        exact ⟨_, Sub.refl, by simpa using q⟩
/-- The table of tens lies there. -/
def pow10 : List V := (List.range 20).map fun i => .int .u64 ((10 ^ i : Nat) : Int)
def HasPow (h : H) : Prop := h 3 = some (.cells pow10 true)
theorem pow10_get {i : Nat} (hi : i < 20) : pow10[i]? = some (.int .u64 ((10 ^ i : Nat) : Int)) := by simp [pow10, hi]
theorem log_tab : ∀ L < 65, 1 ≤ L → L * 78913 / 262144 ≤ 19 ∧ (L * 78913 / 262144 = 0 ∨ 10 ^ (L * 78913 / 262144 - 1) ≤ 2 ^ (L - 1)) ∧ 2 ^ L ≤ 10 ^ (L * 78913 / 262144 + 1) := by decide +kernel
theorem digits_of {u L : Nat} (h1 : 1 ≤ L) (h2 : L ≤ 64) (h3 : 2 ^ (L - 1) ≤ u) (h4 : u < 2 ^ L) : (dec u).length = L * 78913 / 262144 + (if 10 ^ (L * 78913 / 262144) ≤ u then 1 else 0) := by
  obtain ⟨t0, t1, t2⟩ := log_tab L (by omega) h1
  generalize L * 78913 / 262144 = x at *
  split
  · rename_i c
    rw [dec_pad x u (.inr c) (by omega), pad_len]
  · rename_i c
    have hx : x ≠ 0 := fun e => by subst e; have : 0 < 2 ^ (L - 1) := Nat.pow_pos (by decide); omega
    obtain ⟨y, rfl⟩ : ∃ y, x = y + 1 := ⟨x - 1, by omega⟩
    rcases t1 with t1 | t1
    · omega
    · rw [dec_pad y u (.inr (by rw [Nat.add_sub_cancel] at t1; omega)) (by omega), pad_len]
theorem numDigits_ac (u : Nat) (h0 : u ≠ 0) (h1 : u < 18446744073709551616) (hG : HasPow h) (hq : Q (.int .i64 ((dec u).length : Nat)) h) : AC pg (.fn 78) [.int .u64 (u : Nat)] h Q := by
  refine AC.fn' (g := g78) rfl (by simp only [List.length_cons, List.length_nil, g78]; decide) ?_; simp only [g78]
  ((try simp -implicitDefEqProofs only [later, laterE, laterD, laterR]); (repeat (first | simp -implicitDefEqProofs only [go_sem, ↓reduceIte, Nat.reduceEqDiff, Nat.reduceAdd, Nat.reduceLeDiff, Nat.reduceLT, Nat.reduceMul, reduceCtorEq, Int.reduceEq, Int.reduceLT, Int.reduceLE, Int.reduceNeg, Int.reduceToNat, Int.reduceMul, Int.reduceAdd, Int.reduceSub] | simp (disch := (first | omega | (simp only [go_sem]; done) | (simp only [lens]; omega))) only [cds])))
  refine len64_ac u h0 h1 fun L l1 l2 l3 l4 => ?_
  have hd := digits_of l1 l2 l3 l4
  have ht := log_tab L (by omega) l1
  ((try simp -implicitDefEqProofs only [later, laterE, laterD, laterR]); (repeat (first | simp -implicitDefEqProofs only [go_sem, ↓reduceIte, Nat.reduceEqDiff, Nat.reduceAdd, Nat.reduceLeDiff, Nat.reduceLT, Nat.reduceMul, reduceCtorEq, Int.reduceEq, Int.reduceLT, Int.reduceLE, Int.reduceNeg, Int.reduceToNat, Int.reduceMul, Int.reduceAdd, Int.reduceSub] | simp (disch := (first | omega | (simp only [go_sem]; done) | (simp only [lens]; omega))) only [cds])))
  refine AC.fn' (g := g94) rfl (by simp only [List.length_cons, List.length_nil, g94]; decide) ?_; simp only [g94]
  have e18 : ishr .i64 ((L : Int) * 78913) 18 = ((L * 78913 / 262144 : Nat) : Int) := by
    unfold ishr
    rw [show (2 : Int) ^ (min (18 : Int).toNat IntKind.i64.bits) = 262144 from rfl, Int.fdiv_eq_ediv_of_nonneg _ (by decide)]
    omega
  ((try simp -implicitDefEqProofs only [later, laterE, laterD, laterR]); (repeat (first | simp -implicitDefEqProofs only [go_sem, ↓reduceIte, Nat.reduceEqDiff, Nat.reduceAdd, Nat.reduceLeDiff, Nat.reduceLT, Nat.reduceMul, reduceCtorEq, Int.reduceEq, Int.reduceLT, Int.reduceLE, Int.reduceNeg, Int.reduceToNat, Int.reduceMul, Int.reduceAdd, Int.reduceSub, e18] | simp (disch := (first | omega | (simp only [go_sem]; done) | (simp only [lens]; omega))) only [cds, e18])))
  refine ⟨_, Sub.refl, ?_⟩
  generalize L * 78913 / 262144 = x at *
  have hp : 10 ^ x < 18446744073709551616 := by
    have : 10 ^ x ≤ 10 ^ 19 := Nat.pow_le_pow_right (by decide) ht.1
    exact Nat.lt_of_le_of_lt this (by decide)
  have hld := pow10_get (i := x) (by omega)
  have hG' : h 3 = some (.cells pow10 true) := hG
  generalize 10 ^ x = p at *
  by_cases c : p ≤ u
  · rw [if_pos c] at hd
    ((try simp -implicitDefEqProofs only [later, laterE, laterD, laterR]); (repeat (first | simp -implicitDefEqProofs only [go_sem, ↓reduceIte, Nat.reduceEqDiff, Nat.reduceAdd, Nat.reduceLeDiff, Nat.reduceLT, Nat.reduceMul, reduceCtorEq, Int.reduceEq, Int.reduceLT, Int.reduceLE, Int.reduceNeg, Int.reduceToNat, Int.reduceMul, Int.reduceAdd, Int.reduceSub, hG', hld] | simp (disch := (first | omega | (simp only [go_sem]; done) | (simp only [lens]; omega))) only [cds, hG', hld])))
    refine AC.fn' (g := g95) rfl (by simp only [List.length_cons, List.length_nil, g95]; decide) ?_; simp only [g95]
    ((try simp -implicitDefEqProofs only [later, laterE, laterD, laterR]); (repeat (first | simp -implicitDefEqProofs only [go_sem, ↓reduceIte, Nat.reduceEqDiff, Nat.reduceAdd, Nat.reduceLeDiff, Nat.reduceLT, Nat.reduceMul, reduceCtorEq, Int.reduceEq, Int.reduceLT, Int.reduceLE, Int.reduceNeg, Int.reduceToNat, Int.reduceMul, Int.reduceAdd, Int.reduceSub] | simp (disch := (first | omega | (simp only [go_sem]; done) | (simp only [lens]; omega))) only [cds])))
    refine ⟨_, Sub.refl, ?_⟩
    rw [hd] at hq
    ((try simp -implicitDefEqProofs only [later, laterE, laterD, laterR]); (repeat (first | simp -implicitDefEqProofs only [go_sem, ↓reduceIte, Nat.reduceEqDiff, Nat.reduceAdd, Nat.reduceLeDiff, Nat.reduceLT, Nat.reduceMul, reduceCtorEq, Int.reduceEq, Int.reduceLT, Int.reduceLE, Int.reduceNeg, Int.reduceToNat, Int.reduceMul, Int.reduceAdd, Int.reduceSub] | simp (disch := (first | omega | (simp only [go_sem]; done) | (simp only [lens]; omega))) only [cds])))
    exact ⟨_, Sub.refl, by simpa using hq⟩
  · rw [if_neg c] at hd
    ((try simp -implicitDefEqProofs only [later, laterE, laterD, laterR]); (repeat (first | simp -implicitDefEqProofs only [go_sem, ↓reduceIte, Nat.reduceEqDiff, Nat.reduceAdd, Nat.reduceLeDiff, Nat.reduceLT, Nat.reduceMul, reduceCtorEq, Int.reduceEq, Int.reduceLT, Int.reduceLE, Int.reduceNeg, Int.reduceToNat, Int.reduceMul, Int.reduceAdd, Int.reduceSub, hG', hld] | simp (disch := (first | omega | (simp only [go_sem]; done) | (simp only [lens]; omega))) only [cds, hG', hld])))
    refine AC.fn' (g := g95) rfl (by simp only [List.length_cons, List.length_nil, g95]; decide) ?_; simp only [g95]
    ((try simp -implicitDefEqProofs only [later, laterE, laterD, laterR]); (repeat (first | simp -implicitDefEqProofs only [go_sem, ↓reduceIte, Nat.reduceEqDiff, Nat.reduceAdd, Nat.reduceLeDiff, Nat.reduceLT, Nat.reduceMul, reduceCtorEq, Int.reduceEq, Int.reduceLT, Int.reduceLE, Int.reduceNeg, Int.reduceToNat, Int.reduceMul, Int.reduceAdd, Int.reduceSub] | simp (disch := (first | omega | (simp only [go_sem]; done) | (simp only [lens]; omega))) only [cds])))
    refine ⟨_, Sub.refl, ?_⟩
    rw [hd] at hq
    ((try simp -implicitDefEqProofs only [later, laterE, laterD, laterR]); (repeat (first | simp -implicitDefEqProofs only [go_sem, ↓reduceIte, Nat.reduceEqDiff, Nat.reduceAdd, Nat.reduceLeDiff, Nat.reduceLT, Nat.reduceMul, reduceCtorEq, Int.reduceEq, Int.reduceLT, Int.reduceLE, Int.reduceNeg, Int.reduceToNat, Int.reduceMul, Int.reduceAdd, Int.reduceSub] | simp (disch := (first | omega | (simp only [go_sem]; done) | (simp only [lens]; omega))) only [cds])))
    exact ⟨_, Sub.refl, by simpa using hq⟩
/-! ### small -/
def smalls : List UInt8 := [48, 48, 48, 49, 48, 50, 48, 51, 48, 52, 48, 53, 48, 54, 48, 55, 48, 56, 48, 57, 49, 48, 49, 49, 49, 50, 49, 51, 49, 52, 49, 53, 49, 54, 49, 55, 49, 56, 49, 57, 50, 48, 50, 49, 50, 50, 50, 51, 50, 52, 50, 53, 50, 54, 50, 55, 50, 56, 50, 57, 51, 48, 51, 49, 51, 50, 51, 51, 51, 52, 51, 53, 51, 54, 51, 55, 51, 56, 51, 57, 52, 48, 52, 49, 52, 50, 52, 51, 52, 52, 52, 53, 52, 54, 52, 55, 52, 56, 52, 57, 53, 48, 53, 49, 53, 50, 53, 51, 53, 52, 53, 53, 53, 54, 53, 55, 53, 56, 53, 57, 54, 48, 54, 49, 54, 50, 54, 51, 54, 52, 54, 53, 54, 54, 54, 55, 54, 56, 54, 57, 55, 48, 55, 49, 55, 50, 55, 51, 55, 52, 55, 53, 55, 54, 55, 55, 55, 56, 55, 57, 56, 48, 56, 49, 56, 50, 56, 51, 56, 52, 56, 53, 56, 54, 56, 55, 56, 56, 56, 57, 57, 48, 57, 49, 57, 50, 57, 51, 57, 52, 57, 53, 57, 54, 57, 55, 57, 56, 57, 57]
theorem small1 : ∀ n < 10, (([48, 49, 50, 51, 52, 53, 54, 55, 56, 57, 97, 98, 99, 100, 101, 102, 103, 104, 105, 106, 107, 108, 109, 110, 111, 112, 113, 114, 115, 116, 117, 118, 119, 120, 121, 122] : List UInt8).take (n + 1)).drop n = [dg n] := by decide +kernel
theorem small2 : ∀ n < 100, ¬ n < 10 → (smalls.take (n * 2 + 2)).drop (n * 2) = [dg (n / 10), dg n] := by decide +kernel
theorem smalls_get : ∀ i < 200, (smalls[i]?).map UInt8.toNat = some (if i % 2 = 0 then 48 + i / 2 / 10 else 48 + i / 2 % 10) := by decide +kernel
theorem smalls_len : smalls.length = 200 := by decide +kernel
set_option maxRecDepth 100000 in
theorem small_ac (n : Nat) (h1 : n < 100) (hq : Q (.str (dec n)) h) : AC pg (.fn 77) [.int .i64 (n : Nat)] h Q := by
  refine AC.fn' (g := g77) rfl (by simp only [List.length_cons, List.length_nil, g77]; decide) ?_; simp only [g77]
  by_cases c : n < 10
  · have e := small1 n c
    rw [dec_small c] at hq
    ((try simp -implicitDefEqProofs only [later, laterE, laterD, laterR]); (repeat (first | simp -implicitDefEqProofs only [go_sem, ↓reduceIte, Nat.reduceEqDiff, Nat.reduceAdd, Nat.reduceLeDiff, Nat.reduceLT, Nat.reduceMul, reduceCtorEq, Int.reduceEq, Int.reduceLT, Int.reduceLE, Int.reduceNeg, Int.reduceToNat, Int.reduceMul, Int.reduceAdd, Int.reduceSub] | simp (disch := (first | omega | (simp only [go_sem]; done) | (simp only [lens]; omega))) only [cds])))
    rw [show ((n : Int) + 1).toNat = n + 1 from by omega, e]
    exact ⟨_, Sub.refl, hq⟩
  · have e := small2 n h1 c
    rw [dec_big c, dec_small (by omega)] at hq
    rw [show ([48, 48, 48, 49, 48, 50, 48, 51, 48, 52, 48, 53, 48, 54, 48, 55, 48, 56, 48, 57, 49, 48, 49, 49, 49, 50, 49, 51, 49, 52, 49, 53, 49, 54, 49, 55, 49, 56, 49, 57, 50, 48, 50, 49, 50, 50, 50, 51, 50, 52, 50, 53, 50, 54, 50, 55, 50, 56, 50, 57, 51, 48, 51, 49, 51, 50, 51, 51, 51, 52, 51, 53, 51, 54, 51, 55, 51, 56, 51, 57, 52, 48, 52, 49, 52, 50, 52, 51, 52, 52, 52, 53, 52, 54, 52, 55, 52, 56, 52, 57, 53, 48, 53, 49, 53, 50, 53, 51, 53, 52, 53, 53, 53, 54, 53, 55, 53, 56, 53, 57, 54, 48, 54, 49, 54, 50, 54, 51, 54, 52, 54, 53, 54, 54, 54, 55, 54, 56, 54, 57, 55, 48, 55, 49, 55, 50, 55, 51, 55, 52, 55, 53, 55, 54, 55, 55, 55, 56, 55, 57, 56, 48, 56, 49, 56, 50, 56, 51, 56, 52, 56, 53, 56, 54, 56, 55, 56, 56, 56, 57, 57, 48, 57, 49, 57, 50, 57, 51, 57, 52, 57, 53, 57, 54, 57, 55, 57, 56, 57, 57] : List UInt8) = smalls from rfl]
    have hl := smalls_len
    ((try simp -implicitDefEqProofs only [later, laterE, laterD, laterR]); (repeat (first | simp -implicitDefEqProofs only [go_sem, ↓reduceIte, Nat.reduceEqDiff, Nat.reduceAdd, Nat.reduceLeDiff, Nat.reduceLT, Nat.reduceMul, reduceCtorEq, Int.reduceEq, Int.reduceLT, Int.reduceLE, Int.reduceNeg, Int.reduceToNat, Int.reduceMul, Int.reduceAdd, Int.reduceSub] | simp (disch := (first | omega | (simp only [go_sem]; done) | (simp only [lens]; omega))) only [cds])))
    rw [show ((n : Int) * 2).toNat = n * 2 from by omega, show ((n : Int) * 2 + 2).toNat = n * 2 + 2 from by omega, e]
    exact ⟨_, Sub.refl, hq⟩
/-! ### formatBase10 -/
/-- The place i of a row that holds u's nd digits from o on. -/
def dgv (u e : Nat) : V := .int .u8 ((dg (u / 10 ^ e)).toNat : Nat)
structure FB (cs : List V) (o nd u m : Nat) (c : List V) : Prop where
  len : c.length = cs.length
  get : ∀ i, c[i]? = if o + m ≤ i ∧ i < o + nd then some (dgv u (o + nd - 1 - i)) else cs[i]?
theorem FB.start {cs : List V} {o nd u : Nat} : FB cs o nd u nd cs := ⟨rfl, fun i => by rw [if_neg (by omega)]⟩
def put1 (c : List V) (i : Nat) (v : V) : List V := c.take i ++ [v] ++ c.drop (i + 1)
theorem put1_eq {c : List V} {i : Nat} {v : V} : List.take i c ++ [v] ++ List.drop (i + 1) c = put1 c i v := rfl
theorem FB.step {cs c : List V} {o nd u m : Nat} {v : V} (F : FB cs o nd u (m + 1) c) (hle : o + nd ≤ cs.length) (hm : m + 1 ≤ nd) (hv : v = dgv u (nd - 1 - m)) : FB cs o nd u m (put1 c (o + m) v) := by
  rw [← put1_eq]
  have hl := F.len
  have e : c.take (o + m) ++ [v] ++ c.drop (o + m + 1) = c.set (o + m) v := by
    rw [List.set_eq_take_append_cons_drop, if_pos (by omega)]; simp
  rw [e]
  refine ⟨by simp [hl], fun i => ?_⟩
  rw [List.getElem?_set]
  by_cases c1 : o + m = i
  · subst c1
    rw [if_pos rfl, if_pos (by omega), if_pos (by omega), hv, show o + nd - 1 - (o + m) = nd - 1 - m from by omega]
  · rw [if_neg c1, F.get i]
    by_cases c2 : o + (m + 1) ≤ i ∧ i < o + nd
    · rw [if_pos c2, if_pos (by omega)]
    · rw [if_neg c2, if_neg (by omega)]
theorem pad_get : ∀ (k n i : Nat), i < k → (pad k n)[i]? = some (dg (n / 10 ^ (k - 1 - i)))
  | k + 1, n, i, h => by
    rw [pad_head]
    cases i with
    | zero => simp
    | succ i => rw [List.getElem?_cons_succ, pad_get k n i (by omega)]; congr 4; omega
theorem FB.done {cs c : List V} {o nd u : Nat} (F : FB cs o nd u 0 c) (hle : o + nd ≤ cs.length) : c = cs.take o ++ bytesIn (pad nd u) ++ cs.drop (o + nd) := by
  have hl := F.len
  apply List.ext_getElem?
  intro i
  have hto : (cs.take o).length = o := by rw [List.length_take]; omega
  have hpl : (bytesIn (pad nd u)).length = nd := by rw [bytesIn_len, pad_len]
  rw [F.get i]
  rcases Nat.lt_or_ge i o with h1 | h1
  · rw [if_neg (by omega), List.append_assoc, List.getElem?_append_left (by omega), List.getElem?_take_of_lt h1]
  · rcases Nat.lt_or_ge i (o + nd) with h2 | h2
    · rw [if_pos (by omega), List.append_assoc, List.getElem?_append_right (by omega), hto, List.getElem?_append_left (by omega), bytesIn_get, pad_get nd u _ (by omega)]
      simp only [Option.map_some, dgv]
      rw [show o + nd - 1 - i = nd - 1 - (i - o) from by omega]
    · rw [if_neg (by omega), List.getElem?_append_right (by rw [List.length_append]; omega), List.length_append, hto, hpl, List.getElem?_drop]
      congr 1; omega
theorem dgv_of {u e : Nat} {c : UInt8} {q : Nat} (hq : u / 10 ^ e % 10 = q % 10) (hc : c.toNat = 48 + q % 10) : V.int .u8 ((c.toNat : Nat) : Int) = dgv u e := by
  unfold dgv; rw [dg_nat, hc, hq]
end Go.Proofs.YtijipnkdabdioabGreatDoor
