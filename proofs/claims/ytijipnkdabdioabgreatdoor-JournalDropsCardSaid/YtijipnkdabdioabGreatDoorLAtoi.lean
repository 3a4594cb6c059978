/- Walks that serve several seats: texts into numbers. -/
import Derived.Test.YtijipnkdabdioabGreatDoorLInt
set_option linter.unusedSimpArgs false
set_option linter.unusedVariables false
namespace Go.Proofs.YtijipnkdabdioabGreatDoor
open Mir
variable {h : H} {Q : V → H → Prop}
/-- Is it digits that say a number that fits? -/
def Good (s : List UInt8) : Prop := s ≠ [] ∧ s.all isDg = true ∧ val s < 9223372036854775808
abbrev Err3 (e : V) : Prop := e = .nilif ∨ e = .iface 90 (.int .i64 1) ∨ e = .iface 90 (.int .i64 2)
theorem val_mono (l m : List UInt8) : val l ≤ val (l ++ m) := by
  unfold val
  rw [List.foldl_append]
  generalize List.foldl (fun a (c : UInt8) => a * 10 + (c.toNat - 48)) 0 l = v
  induction m generalizing v with
  | nil => exact Nat.le_refl _
  | cons c m ih => exact Nat.le_trans (by omega) (ih (v * 10 + (c.toNat - 48)))
theorem val_take_le (s : List UInt8) (i : Nat) : val (s.take i) ≤ val s := by
  have := val_mono (s.take i) (s.drop i)
  rwa [List.take_append_drop] at this
theorem val_step {s : List UInt8} {i : Nat} {c : UInt8} (hc : s[i]? = some c) : val (s.take (i + 1)) = val (s.take i) * 10 + (c.toNat - 48) := by
  rw [List.take_succ_eq_append_getElem (List.getElem?_eq_some_iff.1 hc).1, (List.getElem?_eq_some_iff.1 hc).2, val_snoc]
theorem dg_at {s : List UInt8} {i : Nat} {c : UInt8} (h : s.all isDg = true) (hc : s[i]? = some c) : 48 ≤ c.toNat ∧ c.toNat ≤ 57 := by
  have := List.all_eq_true.1 h c (List.mem_of_getElem? hc)
  simpa [isDg] using this
theorem lower_ac (c : Nat) (hq : ∀ d : Nat, d < 256 → Q (.int .u8 (d : Nat)) h) : AC pg (.fn 100) [.int .u8 (c : Nat)] h Q := by
  refine AC.fn' (g := g100) rfl (by simp only [List.length_cons, List.length_nil, g100]; decide) ?_; simp only [g100]
  ((try simp -implicitDefEqProofs only [later, laterE, laterD, laterR]); (repeat (first | simp -implicitDefEqProofs only [go_sem, ↓reduceIte, Nat.reduceEqDiff, Nat.reduceAdd, Nat.reduceLeDiff, Nat.reduceLT, Nat.reduceMul, reduceCtorEq, Int.reduceEq, Int.reduceLT, Int.reduceLE, Int.reduceNeg, Int.reduceToNat, Int.reduceMul, Int.reduceAdd, Int.reduceSub] | simp (disch := (first | omega | (simp only [go_sem]; done) | (simp only [lens]; omega))) only [cds])))
  obtain ⟨d, hd, hlt⟩ : ∃ d : Nat, ior .u8 (c : Int) 32 = d ∧ d < 256 := by
    unfold ior
    rw [wrap_u8m]
    generalize ((BitVec.ofInt IntKind.u8.bits (c : Int) ||| BitVec.ofInt IntKind.u8.bits 32).toNat : Int) = x
    exact ⟨(x % 256).toNat, by omega, by omega⟩
  have q := hq d hlt
  rw [hd]
  exact ⟨_, Sub.refl, q⟩
theorem parseUint_ac (s : List UInt8) (hl : s.length < 1099511627776) (hq : ∀ (n : Nat) (e : V), n < 18446744073709551616 → Err3 e → (Good s → n = val s ∧ e = .nilif) → Q (.tup [.int .u64 (n : Nat), e]) h) :
    AC pg (.fn 85) [.str s, .int .i64 10, .int .i64 0] h Q := by
  refine AC.fn' (g := g85) rfl (by simp only [List.length_cons, List.length_nil, g85]; decide) ?_; simp only [g85]
  by_cases c0 : s = []
  · subst c0
    have q := hq 0 (.iface 90 (.int .i64 2)) (by omega) (.inr (.inr rfl)) (fun g => absurd rfl g.1)
    ((try simp -implicitDefEqProofs only [later, laterE, laterD, laterR]); (repeat (first | simp -implicitDefEqProofs only [go_sem, ↓reduceIte, Nat.reduceEqDiff, Nat.reduceAdd, Nat.reduceLeDiff, Nat.reduceLT, Nat.reduceMul, reduceCtorEq, Int.reduceEq, Int.reduceLT, Int.reduceLE, Int.reduceNeg, Int.reduceToNat, Int.reduceMul, Int.reduceAdd, Int.reduceSub] | simp (disch := (first | omega | (simp only [go_sem]; done) | (simp only [lens]; omega))) only [cds])))
    exact ⟨_, Sub.refl, q⟩
  · have e64 : ishl .u64 1 64 = 0 := by decide
    have em : IntKind.u64.wrap (-1) = 18446744073709551615 := by decide
    ((try simp -implicitDefEqProofs only [later, laterE, laterD, laterR]); (repeat (first | simp -implicitDefEqProofs only [go_sem, ↓reduceIte, Nat.reduceEqDiff, Nat.reduceAdd, Nat.reduceLeDiff, Nat.reduceLT, Nat.reduceMul, reduceCtorEq, Int.reduceEq, Int.reduceLT, Int.reduceLE, Int.reduceNeg, Int.reduceToNat, Int.reduceMul, Int.reduceAdd, Int.reduceSub, decide_eq_false c0, e64, em] | simp (disch := (first | omega | (simp only [go_sem]; done) | (simp only [lens]; omega))) only [cds, decide_eq_false c0, e64, em])))
    intro b hb
    ((try simp -implicitDefEqProofs only [later, laterE, laterD, laterR]); (repeat (first | simp -implicitDefEqProofs only [go_sem, ↓reduceIte, Nat.reduceEqDiff, Nat.reduceAdd, Nat.reduceLeDiff, Nat.reduceLT, Nat.reduceMul, reduceCtorEq, Int.reduceEq, Int.reduceLT, Int.reduceLE, Int.reduceNeg, Int.reduceToNat, Int.reduceMul, Int.reduceAdd, Int.reduceSub] | simp (disch := (first | omega | (simp only [go_sem]; done) | (simp only [lens]; omega))) only [cds])))
    refine E.loopX AC.mono (fun (i : Nat) a' h' => ∃ n : Nat, i ≤ s.length ∧ n < 18446744073709551616 ∧ (Good s → n = val (s.take i)) ∧ h' = hadd h b (.cells (bytesIn s) false) ∧ a'.d = [] ∧ a'.t 1 = .int .i64 10 ∧ a'.t 8 = .bool false ∧ a'.t 10 = .int .u64 1844674407370955162 ∧
      a'.t 11 = .int .u64 18446744073709551615 ∧ a'.t 12 = .bool false ∧ a'.t 13 = .int .u64 (n : Nat) ∧ a'.t 99 = .sl b 0 1 s.length ∧ a'.t 100 = .int .i64 s.length ∧ a'.t 101 = .int .i64 i) (fun i => s.length - i) 0 ?_ ?_
    · refine ⟨0, Nat.zero_le _, by omega, fun _ => rfl, rfl, rfl, ?_⟩
      ((try simp -implicitDefEqProofs only [later, laterE, laterD, laterR]); (repeat (first | simp -implicitDefEqProofs only [go_sem, ↓reduceIte, Nat.reduceEqDiff, Nat.reduceAdd, Nat.reduceLeDiff, Nat.reduceLT, Nat.reduceMul, reduceCtorEq, Int.reduceEq, Int.reduceLT, Int.reduceLE, Int.reduceNeg, Int.reduceToNat, Int.reduceMul, Int.reduceAdd, Int.reduceSub, em] | simp (disch := (first | omega | (simp only [go_sem]; done) | (simp only [lens]; omega))) only [cds, em])))
    · rintro i ⟨t, d⟩ h' ⟨n, hi, hn, hgood, rfl, hd, t1, t8, t10, t11, t12, t13, t99, t100, t101⟩
      simp only at hd t1 t8 t10 t11 t12 t13 t99 t100 t101; subst hd
      have hbl := bytesIn_len s
      by_cases ci : i < s.length
      · obtain ⟨c, hc⟩ : ∃ c, s[i]? = some c := ⟨s[i], List.getElem?_eq_getElem ci⟩
        have hcell : (bytesIn s)[i]? = some (.int .u8 (c.toNat : Nat)) := by rw [bytesIn_get, hc]; rfl
        have hcl := c.toNat_lt
        have hdig : Good s → 48 ≤ c.toNat ∧ c.toNat ≤ 57 := fun g => dg_at g.2.1 hc
        have hvs : Good s → n * 10 + (c.toNat - 48) < 9223372036854775808 := fun g => by
          rw [hgood g, ← val_step hc]; exact Nat.lt_of_le_of_lt (val_take_le _ _) g.2.2
        have hnx : Good s → n * 10 + (c.toNat - 48) = val (s.take (i + 1)) := fun g => by rw [val_step hc, hgood g]
        have qs := fun (ng : ¬ Good s) => hq 0 (.iface 90 (.int .i64 2)) (by omega) (.inr (.inr rfl)) (fun g => absurd g ng)
        have qr := fun (ng : ¬ Good s) => hq 18446744073709551615 (.iface 90 (.int .i64 1)) (by omega) (.inr (.inl rfl)) (fun g => absurd g ng)
        generalize c.toNat = x at *
        have hcase : (48 ≤ x ∧ x ≤ 57) ∨ (x = 95) ∨ (x < 48) ∨ (58 ≤ x ∧ x ≠ 95) := by omega
        by_cases cd : 48 ≤ x ∧ x ≤ 57
        · ((try simp -implicitDefEqProofs only [later, laterE, laterD, laterR]); (repeat (first | simp -implicitDefEqProofs only [go_sem, ↓reduceIte, Nat.reduceEqDiff, Nat.reduceAdd, Nat.reduceLeDiff, Nat.reduceLT, Nat.reduceMul, reduceCtorEq, Int.reduceEq, Int.reduceLT, Int.reduceLE, Int.reduceNeg, Int.reduceToNat, Int.reduceMul, Int.reduceAdd, Int.reduceSub, t1, t8, t10, t11, t12, t13, t99, t100, t101, hcell] | simp (disch := (first | omega | (simp only [go_sem]; done) | (simp only [lens]; omega))) only [cds, t1, t8, t10, t11, t12, t13, t99, t100, t101, hcell])))
          by_cases cn : 1844674407370955162 ≤ n
          · have q := qr (fun g => by have := hvs g; have := hdig g; omega)
            ((try simp -implicitDefEqProofs only [later, laterE, laterD, laterR]); (repeat (first | simp -implicitDefEqProofs only [go_sem, ↓reduceIte, Nat.reduceEqDiff, Nat.reduceAdd, Nat.reduceLeDiff, Nat.reduceLT, Nat.reduceMul, reduceCtorEq, Int.reduceEq, Int.reduceLT, Int.reduceLE, Int.reduceNeg, Int.reduceToNat, Int.reduceMul, Int.reduceAdd, Int.reduceSub, t1, t8, t10, t11, t12, t13, t99, t100, t101, hcell] | simp (disch := (first | omega | (simp only [go_sem]; done) | (simp only [lens]; omega))) only [cds, t1, t8, t10, t11, t12, t13, t99, t100, t101, hcell])))
            exact ⟨_, Sub.put Sub.refl hb, q⟩
          · by_cases co : n * 10 + (x - 48) < 18446744073709551616
            · ((try simp -implicitDefEqProofs only [later, laterE, laterD, laterR]); (repeat (first | simp -implicitDefEqProofs only [go_sem, ↓reduceIte, Nat.reduceEqDiff, Nat.reduceAdd, Nat.reduceLeDiff, Nat.reduceLT, Nat.reduceMul, reduceCtorEq, Int.reduceEq, Int.reduceLT, Int.reduceLE, Int.reduceNeg, Int.reduceToNat, Int.reduceMul, Int.reduceAdd, Int.reduceSub, t1, t8, t10, t11, t12, t13, t99, t100, t101, hcell] | simp (disch := (first | omega | (simp only [go_sem]; done) | (simp only [lens]; omega))) only [cds, t1, t8, t10, t11, t12, t13, t99, t100, t101, hcell])))
              refine ⟨i + 1, ?_⟩
              ((try simp -implicitDefEqProofs only [later, laterE, laterD, laterR]); (repeat (first | simp -implicitDefEqProofs only [go_sem, ↓reduceIte, Nat.reduceEqDiff, Nat.reduceAdd, Nat.reduceLeDiff, Nat.reduceLT, Nat.reduceMul, reduceCtorEq, Int.reduceEq, Int.reduceLT, Int.reduceLE, Int.reduceNeg, Int.reduceToNat, Int.reduceMul, Int.reduceAdd, Int.reduceSub, t1, t8, t10, t11, t12, t13, t99, t100, t101, hcell] | simp (disch := (first | omega | (simp only [go_sem]; done) | (simp only [lens]; omega))) only [cds, t1, t8, t10, t11, t12, t13, t99, t100, t101, hcell])))
              refine ⟨by omega, n * 10 + (x - 48), by omega, by omega, hnx, ?_⟩
              ((repeat' apply And.intro) <;> (first | omega | rfl | assumption | (congr 1 <;> omega) | skip))
            · have eo : IntKind.u64.wrap ((n : Int) * 10 + ((x : Int) - 48)) = (n : Int) * 10 + ((x : Int) - 48) - 18446744073709551616 := by rw [wrap_u64m]; omega
              have q := qr (fun g => by have := hvs g; have := hdig g; omega)
              ((try simp -implicitDefEqProofs only [later, laterE, laterD, laterR]); (repeat (first | simp -implicitDefEqProofs only [go_sem, ↓reduceIte, Nat.reduceEqDiff, Nat.reduceAdd, Nat.reduceLeDiff, Nat.reduceLT, Nat.reduceMul, reduceCtorEq, Int.reduceEq, Int.reduceLT, Int.reduceLE, Int.reduceNeg, Int.reduceToNat, Int.reduceMul, Int.reduceAdd, Int.reduceSub, t1, t8, t10, t11, t12, t13, t99, t100, t101, hcell, eo] | simp (disch := (first | omega | (simp only [go_sem]; done) | (simp only [lens]; omega))) only [cds, t1, t8, t10, t11, t12, t13, t99, t100, t101, hcell, eo])))
              exact ⟨_, Sub.put Sub.refl hb, q⟩
        · have hng : ¬ Good s := fun g => cd (hdig g)
          have q2 := qs hng
          rcases hcase with hc1 | hc1 | hc1 | hc1
          · exact absurd hc1 cd
          all_goals
            ((try simp -implicitDefEqProofs only [later, laterE, laterD, laterR]); (repeat (first | simp -implicitDefEqProofs only [go_sem, ↓reduceIte, Nat.reduceEqDiff, Nat.reduceAdd, Nat.reduceLeDiff, Nat.reduceLT, Nat.reduceMul, reduceCtorEq, Int.reduceEq, Int.reduceLT, Int.reduceLE, Int.reduceNeg, Int.reduceToNat, Int.reduceMul, Int.reduceAdd, Int.reduceSub, t1, t8, t10, t11, t12, t13, t99, t100, t101, hcell] | simp (disch := (first | omega | (simp only [go_sem]; done) | (simp only [lens]; omega))) only [cds, t1, t8, t10, t11, t12, t13, t99, t100, t101, hcell])))
            refine lower_ac x fun d1 hd1 => ?_
            by_cases c1 : 97 ≤ d1
            · ((try simp -implicitDefEqProofs only [later, laterE, laterD, laterR]); (repeat (first | simp -implicitDefEqProofs only [go_sem, ↓reduceIte, Nat.reduceEqDiff, Nat.reduceAdd, Nat.reduceLeDiff, Nat.reduceLT, Nat.reduceMul, reduceCtorEq, Int.reduceEq, Int.reduceLT, Int.reduceLE, Int.reduceNeg, Int.reduceToNat, Int.reduceMul, Int.reduceAdd, Int.reduceSub, t1, t8, t10, t11, t12, t13, t99, t100, t101, hcell] | simp (disch := (first | omega | (simp only [go_sem]; done) | (simp only [lens]; omega))) only [cds, t1, t8, t10, t11, t12, t13, t99, t100, t101, hcell])))
              refine lower_ac x fun d2 hd2 => ?_
              by_cases c2 : d2 ≤ 122
              · ((try simp -implicitDefEqProofs only [later, laterE, laterD, laterR]); (repeat (first | simp -implicitDefEqProofs only [go_sem, ↓reduceIte, Nat.reduceEqDiff, Nat.reduceAdd, Nat.reduceLeDiff, Nat.reduceLT, Nat.reduceMul, reduceCtorEq, Int.reduceEq, Int.reduceLT, Int.reduceLE, Int.reduceNeg, Int.reduceToNat, Int.reduceMul, Int.reduceAdd, Int.reduceSub, t1, t8, t10, t11, t12, t13, t99, t100, t101, hcell] | simp (disch := (first | omega | (simp only [go_sem]; done) | (simp only [lens]; omega))) only [cds, t1, t8, t10, t11, t12, t13, t99, t100, t101, hcell])))
                refine lower_ac x fun d3 hd3 => ?_
                obtain ⟨e, he, hel⟩ : ∃ e : Nat, IntKind.u8.wrap (IntKind.u8.wrap ((d3 : Int) - 97) + 10) = e ∧ e < 256 := ⟨((((d3 : Int) - 97) % 256 + 10) % 256).toNat, by rw [wrap_u8m, wrap_u8m]; omega, by omega⟩
                by_cases ce : 10 ≤ e
                · ((try simp -implicitDefEqProofs only [later, laterE, laterD, laterR]); (repeat (first | simp -implicitDefEqProofs only [go_sem, ↓reduceIte, Nat.reduceEqDiff, Nat.reduceAdd, Nat.reduceLeDiff, Nat.reduceLT, Nat.reduceMul, reduceCtorEq, Int.reduceEq, Int.reduceLT, Int.reduceLE, Int.reduceNeg, Int.reduceToNat, Int.reduceMul, Int.reduceAdd, Int.reduceSub, t1, t8, t10, t11, t12, t13, t99, t100, t101, hcell, he] | simp (disch := (first | omega | (simp only [go_sem]; done) | (simp only [lens]; omega))) only [cds, t1, t8, t10, t11, t12, t13, t99, t100, t101, hcell, he])))
                  exact ⟨_, Sub.put Sub.refl hb, q2⟩
                · by_cases cn : 1844674407370955162 ≤ n
                  · have q := qr hng
                    ((try simp -implicitDefEqProofs only [later, laterE, laterD, laterR]); (repeat (first | simp -implicitDefEqProofs only [go_sem, ↓reduceIte, Nat.reduceEqDiff, Nat.reduceAdd, Nat.reduceLeDiff, Nat.reduceLT, Nat.reduceMul, reduceCtorEq, Int.reduceEq, Int.reduceLT, Int.reduceLE, Int.reduceNeg, Int.reduceToNat, Int.reduceMul, Int.reduceAdd, Int.reduceSub, t1, t8, t10, t11, t12, t13, t99, t100, t101, hcell, he] | simp (disch := (first | omega | (simp only [go_sem]; done) | (simp only [lens]; omega))) only [cds, t1, t8, t10, t11, t12, t13, t99, t100, t101, hcell, he])))
                    exact ⟨_, Sub.put Sub.refl hb, q⟩
                  · by_cases co : n * 10 + e < 18446744073709551616
                    · ((try simp -implicitDefEqProofs only [later, laterE, laterD, laterR]); (repeat (first | simp -implicitDefEqProofs only [go_sem, ↓reduceIte, Nat.reduceEqDiff, Nat.reduceAdd, Nat.reduceLeDiff, Nat.reduceLT, Nat.reduceMul, reduceCtorEq, Int.reduceEq, Int.reduceLT, Int.reduceLE, Int.reduceNeg, Int.reduceToNat, Int.reduceMul, Int.reduceAdd, Int.reduceSub, t1, t8, t10, t11, t12, t13, t99, t100, t101, hcell, he] | simp (disch := (first | omega | (simp only [go_sem]; done) | (simp only [lens]; omega))) only [cds, t1, t8, t10, t11, t12, t13, t99, t100, t101, hcell, he])))
                      refine ⟨i + 1, ?_⟩
                      ((try simp -implicitDefEqProofs only [later, laterE, laterD, laterR]); (repeat (first | simp -implicitDefEqProofs only [go_sem, ↓reduceIte, Nat.reduceEqDiff, Nat.reduceAdd, Nat.reduceLeDiff, Nat.reduceLT, Nat.reduceMul, reduceCtorEq, Int.reduceEq, Int.reduceLT, Int.reduceLE, Int.reduceNeg, Int.reduceToNat, Int.reduceMul, Int.reduceAdd, Int.reduceSub, t1, t8, t10, t11, t12, t13, t99, t100, t101, hcell] | simp (disch := (first | omega | (simp only [go_sem]; done) | (simp only [lens]; omega))) only [cds, t1, t8, t10, t11, t12, t13, t99, t100, t101, hcell])))
                      refine ⟨by omega, n * 10 + e, by omega, by omega, fun g => absurd g hng, ?_⟩
                      ((repeat' apply And.intro) <;> (first | omega | rfl | assumption | (congr 1 <;> omega) | skip))
                    · have eo : IntKind.u64.wrap ((n : Int) * 10 + (e : Int)) = (n : Int) * 10 + e - 18446744073709551616 := by rw [wrap_u64m]; omega
                      have q := qr hng
                      ((try simp -implicitDefEqProofs only [later, laterE, laterD, laterR]); (repeat (first | simp -implicitDefEqProofs only [go_sem, ↓reduceIte, Nat.reduceEqDiff, Nat.reduceAdd, Nat.reduceLeDiff, Nat.reduceLT, Nat.reduceMul, reduceCtorEq, Int.reduceEq, Int.reduceLT, Int.reduceLE, Int.reduceNeg, Int.reduceToNat, Int.reduceMul, Int.reduceAdd, Int.reduceSub, t1, t8, t10, t11, t12, t13, t99, t100, t101, hcell, he, eo] | simp (disch := (first | omega | (simp only [go_sem]; done) | (simp only [lens]; omega))) only [cds, t1, t8, t10, t11, t12, t13, t99, t100, t101, hcell, he, eo])))
                      exact ⟨_, Sub.put Sub.refl hb, q⟩
              · ((try simp -implicitDefEqProofs only [later, laterE, laterD, laterR]); (repeat (first | simp -implicitDefEqProofs only [go_sem, ↓reduceIte, Nat.reduceEqDiff, Nat.reduceAdd, Nat.reduceLeDiff, Nat.reduceLT, Nat.reduceMul, reduceCtorEq, Int.reduceEq, Int.reduceLT, Int.reduceLE, Int.reduceNeg, Int.reduceToNat, Int.reduceMul, Int.reduceAdd, Int.reduceSub, t1, t8, t10, t11, t12, t13, t99, t100, t101, hcell] | simp (disch := (first | omega | (simp only [go_sem]; done) | (simp only [lens]; omega))) only [cds, t1, t8, t10, t11, t12, t13, t99, t100, t101, hcell])))
                exact ⟨_, Sub.put Sub.refl hb, q2⟩
            · ((try simp -implicitDefEqProofs only [later, laterE, laterD, laterR]); (repeat (first | simp -implicitDefEqProofs only [go_sem, ↓reduceIte, Nat.reduceEqDiff, Nat.reduceAdd, Nat.reduceLeDiff, Nat.reduceLT, Nat.reduceMul, reduceCtorEq, Int.reduceEq, Int.reduceLT, Int.reduceLE, Int.reduceNeg, Int.reduceToNat, Int.reduceMul, Int.reduceAdd, Int.reduceSub, t1, t8, t10, t11, t12, t13, t99, t100, t101, hcell] | simp (disch := (first | omega | (simp only [go_sem]; done) | (simp only [lens]; omega))) only [cds, t1, t8, t10, t11, t12, t13, t99, t100, t101, hcell])))
              exact ⟨_, Sub.put Sub.refl hb, q2⟩
      · ((try simp -implicitDefEqProofs only [later, laterE, laterD, laterR]); (repeat (first | simp -implicitDefEqProofs only [go_sem, ↓reduceIte, Nat.reduceEqDiff, Nat.reduceAdd, Nat.reduceLeDiff, Nat.reduceLT, Nat.reduceMul, reduceCtorEq, Int.reduceEq, Int.reduceLT, Int.reduceLE, Int.reduceNeg, Int.reduceToNat, Int.reduceMul, Int.reduceAdd, Int.reduceSub, t1, t8, t10, t11, t12, t13, t99, t100, t101] | simp (disch := (first | omega | (simp only [go_sem]; done) | (simp only [lens]; omega))) only [cds, t1, t8, t10, t11, t12, t13, t99, t100, t101])))
        have : i = s.length := by omega
        subst this
        rw [List.take_length] at hgood
        exact ⟨_, Sub.put Sub.refl hb, hq n .nilif hn (.inl rfl) (fun g => ⟨hgood g, rfl⟩)⟩
theorem good_first {s : List UInt8} {c : UInt8} (g : Good s) (hc : s[0]? = some c) : 48 ≤ c.toNat ∧ c.toNat ≤ 57 := dg_at g.2.1 hc
theorem parseInt_ac (s : List UInt8) (hl : s.length < 1099511627776) (hq : ∀ (n : Int) (e : V), -9223372036854775808 ≤ n → n < 9223372036854775808 → Err3 e → (Good s → n = val s ∧ e = .nilif) → Q (.tup [.int .i64 n, e]) h) :
    AC pg (.fn 60) [.str s, .int .i64 10, .int .i64 0] h Q := by
  refine AC.fn' (g := g60) rfl (by simp only [List.length_cons, List.length_nil, g60]; decide) ?_; simp only [g60]
  cases s with
  | nil =>
    have q := hq 0 (.iface 90 (.int .i64 2)) (by omega) (by omega) (.inr (.inr rfl)) (fun g => absurd rfl g.1)
    ((try simp -implicitDefEqProofs only [later, laterE, laterD, laterR]); (repeat (first | simp -implicitDefEqProofs only [go_sem, ↓reduceIte, Nat.reduceEqDiff, Nat.reduceAdd, Nat.reduceLeDiff, Nat.reduceLT, Nat.reduceMul, reduceCtorEq, Int.reduceEq, Int.reduceLT, Int.reduceLE, Int.reduceNeg, Int.reduceToNat, Int.reduceMul, Int.reduceAdd, Int.reduceSub] | simp (disch := (first | omega | (simp only [go_sem]; done) | (simp only [lens]; omega))) only [cds])))
    exact ⟨_, Sub.refl, q⟩
  | cons c r =>
    have hf : Good (c :: r) → 48 ≤ c.toNat ∧ c.toNat ≤ 57 := fun g => good_first g rfl
    have hcl := c.toNat_lt
    have eshl : ishl .u64 1 63 = 9223372036854775808 := by decide
    have hlr : r.length < 1099511627776 := by simp at hl; omega
    have ew : IntKind.i64.wrap 9223372036854775808 = -9223372036854775808 := by decide
    -- what is done behind the number that was read
    have q2 := fun (ng : ¬ Good (c :: r)) => hq 0 (.iface 90 (.int .i64 2)) (by omega) (by omega) (.inr (.inr rfl)) (fun g => absurd g ng)
    have q1 := fun (ng : ¬ Good (c :: r)) => hq 9223372036854775807 (.iface 90 (.int .i64 1)) (by omega) (by omega) (.inr (.inl rfl)) (fun g => absurd g ng)
    have q0 := fun (ng : ¬ Good (c :: r)) => hq (-9223372036854775808) (.iface 90 (.int .i64 1)) (by omega) (by omega) (.inr (.inl rfl)) (fun g => absurd g ng)
    have qn := fun (ng : ¬ Good (c :: r)) (n : Int) (h1 : -9223372036854775808 ≤ n) (h2 : n < 9223372036854775808) => hq n .nilif h1 h2 (.inl rfl) (fun g => absurd g ng)
    have hne : (c :: r = []) = False := by simp
    by_cases k45 : c.toNat = 45
    · have ng : ¬ Good (c :: r) := fun g => by have := hf g; omega
      replace q2 := q2 ng; replace q1 := q1 ng; replace q0 := q0 ng; replace qn := qn ng
      have k45' : (c.toNat : Int) = 45 := by omega
      ((try simp -implicitDefEqProofs only [later, laterE, laterD, laterR]); (repeat (first | simp -implicitDefEqProofs only [go_sem, ↓reduceIte, Nat.reduceEqDiff, Nat.reduceAdd, Nat.reduceLeDiff, Nat.reduceLT, Nat.reduceMul, reduceCtorEq, Int.reduceEq, Int.reduceLT, Int.reduceLE, Int.reduceNeg, Int.reduceToNat, Int.reduceMul, Int.reduceAdd, Int.reduceSub, hne, k45'] | simp (disch := (first | omega | (simp only [go_sem]; done) | (simp only [lens]; omega))) only [cds, hne, k45'])))
      refine parseUint_ac r hlr fun n e hn he _ => ?_
      have ew2 : IntKind.i64.wrap (0 - -9223372036854775808) = -9223372036854775808 := by decide
      rcases he with rfl | rfl | rfl
      · by_cases c1 : 9223372036854775808 < n
        · ((try simp -implicitDefEqProofs only [later, laterE, laterD, laterR]); (repeat (first | simp -implicitDefEqProofs only [go_sem, ↓reduceIte, Nat.reduceEqDiff, Nat.reduceAdd, Nat.reduceLeDiff, Nat.reduceLT, Nat.reduceMul, reduceCtorEq, Int.reduceEq, Int.reduceLT, Int.reduceLE, Int.reduceNeg, Int.reduceToNat, Int.reduceMul, Int.reduceAdd, Int.reduceSub, eshl, ew] | simp (disch := (first | omega | (simp only [go_sem]; done) | (simp only [lens]; omega))) only [cds, eshl, ew])))
          exact ⟨_, Sub.refl, q0⟩
        · by_cases c2 : n = 9223372036854775808
          · subst c2
            have q := qn (-9223372036854775808) (by omega) (by omega)
            ((try simp -implicitDefEqProofs only [later, laterE, laterD, laterR]); (repeat (first | simp -implicitDefEqProofs only [go_sem, ↓reduceIte, Nat.reduceEqDiff, Nat.reduceAdd, Nat.reduceLeDiff, Nat.reduceLT, Nat.reduceMul, reduceCtorEq, Int.reduceEq, Int.reduceLT, Int.reduceLE, Int.reduceNeg, Int.reduceToNat, Int.reduceMul, Int.reduceAdd, Int.reduceSub, eshl, ew, ew2] | simp (disch := (first | omega | (simp only [go_sem]; done) | (simp only [lens]; omega))) only [cds, eshl, ew, ew2])))
            exact ⟨_, Sub.refl, q⟩
          · have q := qn (0 - (n : Int)) (by omega) (by omega)
            ((try simp -implicitDefEqProofs only [later, laterE, laterD, laterR]); (repeat (first | simp -implicitDefEqProofs only [go_sem, ↓reduceIte, Nat.reduceEqDiff, Nat.reduceAdd, Nat.reduceLeDiff, Nat.reduceLT, Nat.reduceMul, reduceCtorEq, Int.reduceEq, Int.reduceLT, Int.reduceLE, Int.reduceNeg, Int.reduceToNat, Int.reduceMul, Int.reduceAdd, Int.reduceSub, eshl] | simp (disch := (first | omega | (simp only [go_sem]; done) | (simp only [lens]; omega))) only [cds, eshl])))
            exact ⟨_, Sub.refl, q⟩
      · by_cases c1 : 9223372036854775808 < n
        · ((try simp -implicitDefEqProofs only [later, laterE, laterD, laterR]); (repeat (first | simp -implicitDefEqProofs only [go_sem, ↓reduceIte, Nat.reduceEqDiff, Nat.reduceAdd, Nat.reduceLeDiff, Nat.reduceLT, Nat.reduceMul, reduceCtorEq, Int.reduceEq, Int.reduceLT, Int.reduceLE, Int.reduceNeg, Int.reduceToNat, Int.reduceMul, Int.reduceAdd, Int.reduceSub, eshl, ew] | simp (disch := (first | omega | (simp only [go_sem]; done) | (simp only [lens]; omega))) only [cds, eshl, ew])))
          exact ⟨_, Sub.refl, q0⟩
        · by_cases c2 : n = 9223372036854775808
          · subst c2
            have q := qn (-9223372036854775808) (by omega) (by omega)
            ((try simp -implicitDefEqProofs only [later, laterE, laterD, laterR]); (repeat (first | simp -implicitDefEqProofs only [go_sem, ↓reduceIte, Nat.reduceEqDiff, Nat.reduceAdd, Nat.reduceLeDiff, Nat.reduceLT, Nat.reduceMul, reduceCtorEq, Int.reduceEq, Int.reduceLT, Int.reduceLE, Int.reduceNeg, Int.reduceToNat, Int.reduceMul, Int.reduceAdd, Int.reduceSub, eshl, ew, ew2] | simp (disch := (first | omega | (simp only [go_sem]; done) | (simp only [lens]; omega))) only [cds, eshl, ew, ew2])))
            exact ⟨_, Sub.refl, q⟩
          · have q := qn (0 - (n : Int)) (by omega) (by omega)
            ((try simp -implicitDefEqProofs only [later, laterE, laterD, laterR]); (repeat (first | simp -implicitDefEqProofs only [go_sem, ↓reduceIte, Nat.reduceEqDiff, Nat.reduceAdd, Nat.reduceLeDiff, Nat.reduceLT, Nat.reduceMul, reduceCtorEq, Int.reduceEq, Int.reduceLT, Int.reduceLE, Int.reduceNeg, Int.reduceToNat, Int.reduceMul, Int.reduceAdd, Int.reduceSub, eshl] | simp (disch := (first | omega | (simp only [go_sem]; done) | (simp only [lens]; omega))) only [cds, eshl])))
            exact ⟨_, Sub.refl, q⟩
      · ((try simp -implicitDefEqProofs only [later, laterE, laterD, laterR]); (repeat (first | simp -implicitDefEqProofs only [go_sem, ↓reduceIte, Nat.reduceEqDiff, Nat.reduceAdd, Nat.reduceLeDiff, Nat.reduceLT, Nat.reduceMul, reduceCtorEq, Int.reduceEq, Int.reduceLT, Int.reduceLE, Int.reduceNeg, Int.reduceToNat, Int.reduceMul, Int.reduceAdd, Int.reduceSub] | simp (disch := (first | omega | (simp only [go_sem]; done) | (simp only [lens]; omega))) only [cds])))
        exact ⟨_, Sub.refl, q2⟩
    · have k45' : ¬ (c.toNat : Int) = 45 := by omega
      by_cases k43 : c.toNat = 43
      · have ng : ¬ Good (c :: r) := fun g => by have := hf g; omega
        replace q2 := q2 ng; replace q1 := q1 ng; replace q0 := q0 ng; replace qn := qn ng
        have k43' : (c.toNat : Int) = 43 := by omega
        ((try simp -implicitDefEqProofs only [later, laterE, laterD, laterR]); (repeat (first | simp -implicitDefEqProofs only [go_sem, ↓reduceIte, Nat.reduceEqDiff, Nat.reduceAdd, Nat.reduceLeDiff, Nat.reduceLT, Nat.reduceMul, reduceCtorEq, Int.reduceEq, Int.reduceLT, Int.reduceLE, Int.reduceNeg, Int.reduceToNat, Int.reduceMul, Int.reduceAdd, Int.reduceSub, hne, k43'] | simp (disch := (first | omega | (simp only [go_sem]; done) | (simp only [lens]; omega))) only [cds, hne, k43'])))
        refine parseUint_ac r hlr fun n e hn he _ => ?_
        rcases he with rfl | rfl | rfl
        · by_cases c1 : 9223372036854775808 ≤ n
          · ((try simp -implicitDefEqProofs only [later, laterE, laterD, laterR]); (repeat (first | simp -implicitDefEqProofs only [go_sem, ↓reduceIte, Nat.reduceEqDiff, Nat.reduceAdd, Nat.reduceLeDiff, Nat.reduceLT, Nat.reduceMul, reduceCtorEq, Int.reduceEq, Int.reduceLT, Int.reduceLE, Int.reduceNeg, Int.reduceToNat, Int.reduceMul, Int.reduceAdd, Int.reduceSub, eshl] | simp (disch := (first | omega | (simp only [go_sem]; done) | (simp only [lens]; omega))) only [cds, eshl])))
            exact ⟨_, Sub.refl, q1⟩
          · have q := qn (n : Int) (by omega) (by omega)
            ((try simp -implicitDefEqProofs only [later, laterE, laterD, laterR]); (repeat (first | simp -implicitDefEqProofs only [go_sem, ↓reduceIte, Nat.reduceEqDiff, Nat.reduceAdd, Nat.reduceLeDiff, Nat.reduceLT, Nat.reduceMul, reduceCtorEq, Int.reduceEq, Int.reduceLT, Int.reduceLE, Int.reduceNeg, Int.reduceToNat, Int.reduceMul, Int.reduceAdd, Int.reduceSub, eshl] | simp (disch := (first | omega | (simp only [go_sem]; done) | (simp only [lens]; omega))) only [cds, eshl])))
            exact ⟨_, Sub.refl, q⟩
        · by_cases c1 : 9223372036854775808 ≤ n
          · ((try simp -implicitDefEqProofs only [later, laterE, laterD, laterR]); (repeat (first | simp -implicitDefEqProofs only [go_sem, ↓reduceIte, Nat.reduceEqDiff, Nat.reduceAdd, Nat.reduceLeDiff, Nat.reduceLT, Nat.reduceMul, reduceCtorEq, Int.reduceEq, Int.reduceLT, Int.reduceLE, Int.reduceNeg, Int.reduceToNat, Int.reduceMul, Int.reduceAdd, Int.reduceSub, eshl] | simp (disch := (first | omega | (simp only [go_sem]; done) | (simp only [lens]; omega))) only [cds, eshl])))
            exact ⟨_, Sub.refl, q1⟩
          · have q := qn (n : Int) (by omega) (by omega)
            ((try simp -implicitDefEqProofs only [later, laterE, laterD, laterR]); (repeat (first | simp -implicitDefEqProofs only [go_sem, ↓reduceIte, Nat.reduceEqDiff, Nat.reduceAdd, Nat.reduceLeDiff, Nat.reduceLT, Nat.reduceMul, reduceCtorEq, Int.reduceEq, Int.reduceLT, Int.reduceLE, Int.reduceNeg, Int.reduceToNat, Int.reduceMul, Int.reduceAdd, Int.reduceSub, eshl] | simp (disch := (first | omega | (simp only [go_sem]; done) | (simp only [lens]; omega))) only [cds, eshl])))
            exact ⟨_, Sub.refl, q⟩
        · ((try simp -implicitDefEqProofs only [later, laterE, laterD, laterR]); (repeat (first | simp -implicitDefEqProofs only [go_sem, ↓reduceIte, Nat.reduceEqDiff, Nat.reduceAdd, Nat.reduceLeDiff, Nat.reduceLT, Nat.reduceMul, reduceCtorEq, Int.reduceEq, Int.reduceLT, Int.reduceLE, Int.reduceNeg, Int.reduceToNat, Int.reduceMul, Int.reduceAdd, Int.reduceSub] | simp (disch := (first | omega | (simp only [go_sem]; done) | (simp only [lens]; omega))) only [cds])))
          exact ⟨_, Sub.refl, q2⟩
      · have k43' : ¬ (c.toNat : Int) = 43 := by omega
        ((try simp -implicitDefEqProofs only [later, laterE, laterD, laterR]); (repeat (first | simp -implicitDefEqProofs only [go_sem, ↓reduceIte, Nat.reduceEqDiff, Nat.reduceAdd, Nat.reduceLeDiff, Nat.reduceLT, Nat.reduceMul, reduceCtorEq, Int.reduceEq, Int.reduceLT, Int.reduceLE, Int.reduceNeg, Int.reduceToNat, Int.reduceMul, Int.reduceAdd, Int.reduceSub, hne, k43', k45'] | simp (disch := (first | omega | (simp only [go_sem]; done) | (simp only [lens]; omega))) only [cds, hne, k43', k45'])))
        refine parseUint_ac (c :: r) hl fun n e hn he hg => ?_
        rcases he with rfl | rfl | rfl
        · by_cases c1 : 9223372036854775808 ≤ n
          · have q := q1 fun g => by have := (hg g).1; have := g.2.2; omega
            ((try simp -implicitDefEqProofs only [later, laterE, laterD, laterR]); (repeat (first | simp -implicitDefEqProofs only [go_sem, ↓reduceIte, Nat.reduceEqDiff, Nat.reduceAdd, Nat.reduceLeDiff, Nat.reduceLT, Nat.reduceMul, reduceCtorEq, Int.reduceEq, Int.reduceLT, Int.reduceLE, Int.reduceNeg, Int.reduceToNat, Int.reduceMul, Int.reduceAdd, Int.reduceSub, eshl] | simp (disch := (first | omega | (simp only [go_sem]; done) | (simp only [lens]; omega))) only [cds, eshl])))
            exact ⟨_, Sub.refl, q⟩
          · have q := hq (n : Int) .nilif (by omega) (by omega) (.inl rfl) (fun g => ⟨by rw [(hg g).1], rfl⟩)
            ((try simp -implicitDefEqProofs only [later, laterE, laterD, laterR]); (repeat (first | simp -implicitDefEqProofs only [go_sem, ↓reduceIte, Nat.reduceEqDiff, Nat.reduceAdd, Nat.reduceLeDiff, Nat.reduceLT, Nat.reduceMul, reduceCtorEq, Int.reduceEq, Int.reduceLT, Int.reduceLE, Int.reduceNeg, Int.reduceToNat, Int.reduceMul, Int.reduceAdd, Int.reduceSub, eshl] | simp (disch := (first | omega | (simp only [go_sem]; done) | (simp only [lens]; omega))) only [cds, eshl])))
            exact ⟨_, Sub.refl, q⟩
        · have ng : ¬ Good (c :: r) := fun g => by cases (hg g).2
          by_cases c1 : 9223372036854775808 ≤ n
          · have q := q1 ng
            ((try simp -implicitDefEqProofs only [later, laterE, laterD, laterR]); (repeat (first | simp -implicitDefEqProofs only [go_sem, ↓reduceIte, Nat.reduceEqDiff, Nat.reduceAdd, Nat.reduceLeDiff, Nat.reduceLT, Nat.reduceMul, reduceCtorEq, Int.reduceEq, Int.reduceLT, Int.reduceLE, Int.reduceNeg, Int.reduceToNat, Int.reduceMul, Int.reduceAdd, Int.reduceSub, eshl] | simp (disch := (first | omega | (simp only [go_sem]; done) | (simp only [lens]; omega))) only [cds, eshl])))
            exact ⟨_, Sub.refl, q⟩
          · have q := qn ng (n : Int) (by omega) (by omega)
            ((try simp -implicitDefEqProofs only [later, laterE, laterD, laterR]); (repeat (first | simp -implicitDefEqProofs only [go_sem, ↓reduceIte, Nat.reduceEqDiff, Nat.reduceAdd, Nat.reduceLeDiff, Nat.reduceLT, Nat.reduceMul, reduceCtorEq, Int.reduceEq, Int.reduceLT, Int.reduceLE, Int.reduceNeg, Int.reduceToNat, Int.reduceMul, Int.reduceAdd, Int.reduceSub, eshl] | simp (disch := (first | omega | (simp only [go_sem]; done) | (simp only [lens]; omega))) only [cds, eshl])))
            exact ⟨_, Sub.refl, q⟩
        · have q := q2 fun g => by cases (hg g).2
          ((try simp -implicitDefEqProofs only [later, laterE, laterD, laterR]); (repeat (first | simp -implicitDefEqProofs only [go_sem, ↓reduceIte, Nat.reduceEqDiff, Nat.reduceAdd, Nat.reduceLeDiff, Nat.reduceLT, Nat.reduceMul, reduceCtorEq, Int.reduceEq, Int.reduceLT, Int.reduceLE, Int.reduceNeg, Int.reduceToNat, Int.reduceMul, Int.reduceAdd, Int.reduceSub] | simp (disch := (first | omega | (simp only [go_sem]; done) | (simp only [lens]; omega))) only [cds])))
          exact ⟨_, Sub.refl, q⟩
theorem iatoi_ac (s : List UInt8) (hl : s.length < 1099511627776) (hq : ∀ (n : Int) (e : V), -9223372036854775808 ≤ n → n < 9223372036854775808 → Err3 e → (Good s → n = val s ∧ e = .nilif) → Q (.tup [.int .i64 n, e]) h) :
    AC pg (.fn 52) [.str s] h Q := by
  refine AC.fn' (g := g52) rfl (by simp only [List.length_cons, List.length_nil, g52]; decide) ?_; simp only [g52]
  by_cases cs : 0 < s.length ∧ s.length < 19
  · obtain ⟨c, r, rfl⟩ : ∃ c r, s = c :: r := by
      cases s with
      | nil => simp at cs
      | cons c r => exact ⟨c, r, rfl⟩
    have hf : Good (c :: r) → 48 ≤ c.toNat ∧ c.toNat ≤ 57 := fun g => good_first g rfl
    have hlen : (c :: r).length = r.length + 1 := rfl
    have qs := fun (ng : ¬ Good (c :: r)) => hq 0 (.iface 90 (.int .i64 2)) (by omega) (by omega) (.inr (.inr rfl)) (fun g => absurd g ng)
    by_cases k45 : c.toNat = 45
    · have ng : ¬ Good (c :: r) := fun g => by have := hf g; omega
      have k45' : (c.toNat : Int) = 45 := by omega
      by_cases cr : r.length < 1
      · ((try simp -implicitDefEqProofs only [later, laterE, laterD, laterR]); (repeat (first | simp -implicitDefEqProofs only [go_sem, ↓reduceIte, Nat.reduceEqDiff, Nat.reduceAdd, Nat.reduceLeDiff, Nat.reduceLT, Nat.reduceMul, reduceCtorEq, Int.reduceEq, Int.reduceLT, Int.reduceLE, Int.reduceNeg, Int.reduceToNat, Int.reduceMul, Int.reduceAdd, Int.reduceSub, k45'] | simp (disch := (first | omega | (simp only [go_sem]; done) | (simp only [lens]; omega))) only [cds, k45'])))
        exact ⟨_, Sub.refl, qs ng⟩
      · ((try simp -implicitDefEqProofs only [later, laterE, laterD, laterR]); (repeat (first | simp -implicitDefEqProofs only [go_sem, ↓reduceIte, Nat.reduceEqDiff, Nat.reduceAdd, Nat.reduceLeDiff, Nat.reduceLT, Nat.reduceMul, reduceCtorEq, Int.reduceEq, Int.reduceLT, Int.reduceLE, Int.reduceNeg, Int.reduceToNat, Int.reduceMul, Int.reduceAdd, Int.reduceSub, k45'] | simp (disch := (first | omega | (simp only [go_sem]; done) | (simp only [lens]; omega))) only [cds, k45'])))
        intro b hb
        ((try simp -implicitDefEqProofs only [later, laterE, laterD, laterR]); (repeat (first | simp -implicitDefEqProofs only [go_sem, ↓reduceIte, Nat.reduceEqDiff, Nat.reduceAdd, Nat.reduceLeDiff, Nat.reduceLT, Nat.reduceMul, reduceCtorEq, Int.reduceEq, Int.reduceLT, Int.reduceLE, Int.reduceNeg, Int.reduceToNat, Int.reduceMul, Int.reduceAdd, Int.reduceSub] | simp (disch := (first | omega | (simp only [go_sem]; done) | (simp only [lens]; omega))) only [cds])))
        refine E.loopX AC.mono (fun (i : Nat) a' h' => ∃ n : Nat, i ≤ (r).length ∧ ((r).take i).all isDg = true ∧ n = val ((r).take i) ∧ h' = hadd h b (.cells (bytesIn (r)) false) ∧ a'.d = [] ∧ a'.t 5 = .str (c :: r) ∧ a'.t 6 = .int .i64 (n : Nat) ∧ a'.t 47 = .sl b 0 1 (r).length ∧ a'.t 48 = .int .i64 (r).length ∧ a'.t 49 = .int .i64 i) (fun i => (r).length - i) 0 ?_ ?_
        · refine ⟨0, Nat.zero_le _, rfl, rfl, rfl, rfl, ?_⟩
          ((try simp -implicitDefEqProofs only [later, laterE, laterD, laterR]); (repeat (first | simp -implicitDefEqProofs only [go_sem, ↓reduceIte, Nat.reduceEqDiff, Nat.reduceAdd, Nat.reduceLeDiff, Nat.reduceLT, Nat.reduceMul, reduceCtorEq, Int.reduceEq, Int.reduceLT, Int.reduceLE, Int.reduceNeg, Int.reduceToNat, Int.reduceMul, Int.reduceAdd, Int.reduceSub] | simp (disch := (first | omega | (simp only [go_sem]; done) | (simp only [lens]; omega))) only [cds])))
        · rintro i ⟨t, d⟩ h' ⟨n, hi, hall, hn, rfl, hd, t5, t6, t47, t48, t49⟩
          simp only at hd t5 t6 t47 t48 t49; subst hd
          have hbl := bytesIn_len (r)
          have hnl := val_lt _ hall
          rw [← hn, List.length_take] at hnl
          have hp10 : 10 ^ min i (r).length ≤ 10 ^ 18 := Nat.pow_le_pow_right (by decide) (by omega)
          have hn18 : n < 1000000000000000000 := Nat.lt_of_lt_of_le hnl hp10
          by_cases ci : i < (r).length
          · have hn17 : n < 100000000000000000 := Nat.lt_of_lt_of_le hnl (Nat.pow_le_pow_right (n := 10) (j := 17) (by decide) (by omega))
            obtain ⟨x, hc⟩ : ∃ x, (r)[i]? = some x := ⟨(r)[i], List.getElem?_eq_getElem ci⟩
            have hcell : (bytesIn (r))[i]? = some (.int .u8 (x.toNat : Nat)) := by rw [bytesIn_get, hc]; rfl
            have hxl := x.toNat_lt
            by_cases cd : 48 ≤ x.toNat ∧ x.toNat ≤ 57
            · have hall' : ((r).take (i + 1)).all isDg = true := by
                rw [List.take_succ_eq_append_getElem ci, List.all_append, hall]
                have : (r)[i] = x := (List.getElem?_eq_some_iff.1 hc).2
                rw [this]
                simp [isDg, cd]
              have hv := val_step hc
              rw [← hn] at hv
              have e1 : IntKind.u8.wrap (((x.toNat : Nat) : Int) - 48) = ((x.toNat - 48 : Nat) : Int) := by rw [wrap_u8m]; omega
              have hy9' : x.toNat - 48 ≤ 9 := by omega
              generalize x.toNat - 48 = y at *
              have w1 : IntKind.i64.wrap ((n : Int) * 10) = (n : Int) * 10 := wrap_i64_id (by omega) (by omega)
              have w2 : IntKind.i64.wrap ((n : Int) * 10 + (y : Int)) = (n : Int) * 10 + y := wrap_i64_id (by omega) (by omega)
              by_cases hy9 : y ≤ 9
              · ((try simp -implicitDefEqProofs only [later, laterE, laterD, laterR]); (repeat (first | simp -implicitDefEqProofs only [go_sem, ↓reduceIte, Nat.reduceEqDiff, Nat.reduceAdd, Nat.reduceLeDiff, Nat.reduceLT, Nat.reduceMul, reduceCtorEq, Int.reduceEq, Int.reduceLT, Int.reduceLE, Int.reduceNeg, Int.reduceToNat, Int.reduceMul, Int.reduceAdd, Int.reduceSub, t5, t6, t47, t48, t49, hcell, e1, w1, w2] | simp (disch := (first | omega | (simp only [go_sem]; done) | (simp only [lens]; omega))) only [cds, t5, t6, t47, t48, t49, hcell, e1, w1, w2])))
                refine ⟨i + 1, ?_⟩
                ((try simp -implicitDefEqProofs only [later, laterE, laterD, laterR]); (repeat (first | simp -implicitDefEqProofs only [go_sem, ↓reduceIte, Nat.reduceEqDiff, Nat.reduceAdd, Nat.reduceLeDiff, Nat.reduceLT, Nat.reduceMul, reduceCtorEq, Int.reduceEq, Int.reduceLT, Int.reduceLE, Int.reduceNeg, Int.reduceToNat, Int.reduceMul, Int.reduceAdd, Int.reduceSub, t5, t6, t47, t48, t49, hcell] | simp (disch := (first | omega | (simp only [go_sem]; done) | (simp only [lens]; omega))) only [cds, t5, t6, t47, t48, t49, hcell])))
                refine ⟨by omega, n * 10 + y, by omega, hall', hv.symm, ?_⟩
                ((repeat' apply And.intro) <;> (first | omega | rfl | assumption | (congr 1 <;> omega) | skip))
              · exfalso; omega
            · obtain ⟨y, hy, hy9⟩ : ∃ y : Nat, IntKind.u8.wrap (((x.toNat : Nat) : Int) - 48) = y ∧ 9 < y := ⟨((((x.toNat : Nat) : Int) - 48) % 256).toNat, by rw [wrap_u8m]; omega, by omega⟩
              have q := (qs ng)
              ((try simp -implicitDefEqProofs only [later, laterE, laterD, laterR]); (repeat (first | simp -implicitDefEqProofs only [go_sem, ↓reduceIte, Nat.reduceEqDiff, Nat.reduceAdd, Nat.reduceLeDiff, Nat.reduceLT, Nat.reduceMul, reduceCtorEq, Int.reduceEq, Int.reduceLT, Int.reduceLE, Int.reduceNeg, Int.reduceToNat, Int.reduceMul, Int.reduceAdd, Int.reduceSub, t5, t6, t47, t48, t49, hcell, hy] | simp (disch := (first | omega | (simp only [go_sem]; done) | (simp only [lens]; omega))) only [cds, t5, t6, t47, t48, t49, hcell, hy])))
              exact ⟨_, Sub.put Sub.refl hb, q⟩
          · have hi' : i = (r).length := by omega
            subst hi'
            rw [List.take_length] at hn
            have hn2 := hn
            have q := (hq (0 - (n : Int)) .nilif (by omega) (by omega) (.inl rfl) (fun g => absurd g ng))
            ((try simp -implicitDefEqProofs only [later, laterE, laterD, laterR]); (repeat (first | simp -implicitDefEqProofs only [go_sem, ↓reduceIte, Nat.reduceEqDiff, Nat.reduceAdd, Nat.reduceLeDiff, Nat.reduceLT, Nat.reduceMul, reduceCtorEq, Int.reduceEq, Int.reduceLT, Int.reduceLE, Int.reduceNeg, Int.reduceToNat, Int.reduceMul, Int.reduceAdd, Int.reduceSub, t5, t6, t47, t48, t49, k45'] | simp (disch := (first | omega | (simp only [go_sem]; done) | (simp only [lens]; omega))) only [cds, t5, t6, t47, t48, t49, k45'])))
            exact ⟨_, Sub.put Sub.refl hb, q⟩
    · by_cases k43 : c.toNat = 43
      · have ng : ¬ Good (c :: r) := fun g => by have := hf g; omega
        have k43' : (c.toNat : Int) = 43 := by omega
        have k45' : ¬ (c.toNat : Int) = 45 := by omega
        by_cases cr : r.length < 1
        · ((try simp -implicitDefEqProofs only [later, laterE, laterD, laterR]); (repeat (first | simp -implicitDefEqProofs only [go_sem, ↓reduceIte, Nat.reduceEqDiff, Nat.reduceAdd, Nat.reduceLeDiff, Nat.reduceLT, Nat.reduceMul, reduceCtorEq, Int.reduceEq, Int.reduceLT, Int.reduceLE, Int.reduceNeg, Int.reduceToNat, Int.reduceMul, Int.reduceAdd, Int.reduceSub, k43'] | simp (disch := (first | omega | (simp only [go_sem]; done) | (simp only [lens]; omega))) only [cds, k43'])))
          exact ⟨_, Sub.refl, qs ng⟩
        · ((try simp -implicitDefEqProofs only [later, laterE, laterD, laterR]); (repeat (first | simp -implicitDefEqProofs only [go_sem, ↓reduceIte, Nat.reduceEqDiff, Nat.reduceAdd, Nat.reduceLeDiff, Nat.reduceLT, Nat.reduceMul, reduceCtorEq, Int.reduceEq, Int.reduceLT, Int.reduceLE, Int.reduceNeg, Int.reduceToNat, Int.reduceMul, Int.reduceAdd, Int.reduceSub, k43'] | simp (disch := (first | omega | (simp only [go_sem]; done) | (simp only [lens]; omega))) only [cds, k43'])))
          intro b hb
          ((try simp -implicitDefEqProofs only [later, laterE, laterD, laterR]); (repeat (first | simp -implicitDefEqProofs only [go_sem, ↓reduceIte, Nat.reduceEqDiff, Nat.reduceAdd, Nat.reduceLeDiff, Nat.reduceLT, Nat.reduceMul, reduceCtorEq, Int.reduceEq, Int.reduceLT, Int.reduceLE, Int.reduceNeg, Int.reduceToNat, Int.reduceMul, Int.reduceAdd, Int.reduceSub] | simp (disch := (first | omega | (simp only [go_sem]; done) | (simp only [lens]; omega))) only [cds])))
          refine E.loopX AC.mono (fun (i : Nat) a' h' => ∃ n : Nat, i ≤ (r).length ∧ ((r).take i).all isDg = true ∧ n = val ((r).take i) ∧ h' = hadd h b (.cells (bytesIn (r)) false) ∧ a'.d = [] ∧ a'.t 5 = .str (c :: r) ∧ a'.t 6 = .int .i64 (n : Nat) ∧ a'.t 47 = .sl b 0 1 (r).length ∧ a'.t 48 = .int .i64 (r).length ∧ a'.t 49 = .int .i64 i) (fun i => (r).length - i) 0 ?_ ?_
          · refine ⟨0, Nat.zero_le _, rfl, rfl, rfl, rfl, ?_⟩
            ((try simp -implicitDefEqProofs only [later, laterE, laterD, laterR]); (repeat (first | simp -implicitDefEqProofs only [go_sem, ↓reduceIte, Nat.reduceEqDiff, Nat.reduceAdd, Nat.reduceLeDiff, Nat.reduceLT, Nat.reduceMul, reduceCtorEq, Int.reduceEq, Int.reduceLT, Int.reduceLE, Int.reduceNeg, Int.reduceToNat, Int.reduceMul, Int.reduceAdd, Int.reduceSub] | simp (disch := (first | omega | (simp only [go_sem]; done) | (simp only [lens]; omega))) only [cds])))
          · rintro i ⟨t, d⟩ h' ⟨n, hi, hall, hn, rfl, hd, t5, t6, t47, t48, t49⟩
            simp only at hd t5 t6 t47 t48 t49; subst hd
            have hbl := bytesIn_len (r)
            have hnl := val_lt _ hall
            rw [← hn, List.length_take] at hnl
            have hp10 : 10 ^ min i (r).length ≤ 10 ^ 18 := Nat.pow_le_pow_right (by decide) (by omega)
            have hn18 : n < 1000000000000000000 := Nat.lt_of_lt_of_le hnl hp10
            by_cases ci : i < (r).length
            · have hn17 : n < 100000000000000000 := Nat.lt_of_lt_of_le hnl (Nat.pow_le_pow_right (n := 10) (j := 17) (by decide) (by omega))
              obtain ⟨x, hc⟩ : ∃ x, (r)[i]? = some x := ⟨(r)[i], List.getElem?_eq_getElem ci⟩
              have hcell : (bytesIn (r))[i]? = some (.int .u8 (x.toNat : Nat)) := by rw [bytesIn_get, hc]; rfl
              have hxl := x.toNat_lt
              by_cases cd : 48 ≤ x.toNat ∧ x.toNat ≤ 57
              · have hall' : ((r).take (i + 1)).all isDg = true := by
                  rw [List.take_succ_eq_append_getElem ci, List.all_append, hall]
                  have : (r)[i] = x := (List.getElem?_eq_some_iff.1 hc).2
                  rw [this]
                  simp [isDg, cd]
                have hv := val_step hc
                rw [← hn] at hv
                have e1 : IntKind.u8.wrap (((x.toNat : Nat) : Int) - 48) = ((x.toNat - 48 : Nat) : Int) := by rw [wrap_u8m]; omega
                have hy9' : x.toNat - 48 ≤ 9 := by omega
                generalize x.toNat - 48 = y at *
                have w1 : IntKind.i64.wrap ((n : Int) * 10) = (n : Int) * 10 := wrap_i64_id (by omega) (by omega)
                have w2 : IntKind.i64.wrap ((n : Int) * 10 + (y : Int)) = (n : Int) * 10 + y := wrap_i64_id (by omega) (by omega)
                by_cases hy9 : y ≤ 9
                · ((try simp -implicitDefEqProofs only [later, laterE, laterD, laterR]); (repeat (first | simp -implicitDefEqProofs only [go_sem, ↓reduceIte, Nat.reduceEqDiff, Nat.reduceAdd, Nat.reduceLeDiff, Nat.reduceLT, Nat.reduceMul, reduceCtorEq, Int.reduceEq, Int.reduceLT, Int.reduceLE, Int.reduceNeg, Int.reduceToNat, Int.reduceMul, Int.reduceAdd, Int.reduceSub, t5, t6, t47, t48, t49, hcell, e1, w1, w2] | simp (disch := (first | omega | (simp only [go_sem]; done) | (simp only [lens]; omega))) only [cds, t5, t6, t47, t48, t49, hcell, e1, w1, w2])))
                  refine ⟨i + 1, ?_⟩
                  ((try simp -implicitDefEqProofs only [later, laterE, laterD, laterR]); (repeat (first | simp -implicitDefEqProofs only [go_sem, ↓reduceIte, Nat.reduceEqDiff, Nat.reduceAdd, Nat.reduceLeDiff, Nat.reduceLT, Nat.reduceMul, reduceCtorEq, Int.reduceEq, Int.reduceLT, Int.reduceLE, Int.reduceNeg, Int.reduceToNat, Int.reduceMul, Int.reduceAdd, Int.reduceSub, t5, t6, t47, t48, t49, hcell] | simp (disch := (first | omega | (simp only [go_sem]; done) | (simp only [lens]; omega))) only [cds, t5, t6, t47, t48, t49, hcell])))
                  refine ⟨by omega, n * 10 + y, by omega, hall', hv.symm, ?_⟩
                  ((repeat' apply And.intro) <;> (first | omega | rfl | assumption | (congr 1 <;> omega) | skip))
                · exfalso; omega
              · obtain ⟨y, hy, hy9⟩ : ∃ y : Nat, IntKind.u8.wrap (((x.toNat : Nat) : Int) - 48) = y ∧ 9 < y := ⟨((((x.toNat : Nat) : Int) - 48) % 256).toNat, by rw [wrap_u8m]; omega, by omega⟩
                have q := (qs ng)
                ((try simp -implicitDefEqProofs only [later, laterE, laterD, laterR]); (repeat (first | simp -implicitDefEqProofs only [go_sem, ↓reduceIte, Nat.reduceEqDiff, Nat.reduceAdd, Nat.reduceLeDiff, Nat.reduceLT, Nat.reduceMul, reduceCtorEq, Int.reduceEq, Int.reduceLT, Int.reduceLE, Int.reduceNeg, Int.reduceToNat, Int.reduceMul, Int.reduceAdd, Int.reduceSub, t5, t6, t47, t48, t49, hcell, hy] | simp (disch := (first | omega | (simp only [go_sem]; done) | (simp only [lens]; omega))) only [cds, t5, t6, t47, t48, t49, hcell, hy])))
                exact ⟨_, Sub.put Sub.refl hb, q⟩
            · have hi' : i = (r).length := by omega
              subst hi'
              rw [List.take_length] at hn
              have hn2 := hn
              have q := (hq (n : Int) .nilif (by omega) (by omega) (.inl rfl) (fun g => absurd g ng))
              ((try simp -implicitDefEqProofs only [later, laterE, laterD, laterR]); (repeat (first | simp -implicitDefEqProofs only [go_sem, ↓reduceIte, Nat.reduceEqDiff, Nat.reduceAdd, Nat.reduceLeDiff, Nat.reduceLT, Nat.reduceMul, reduceCtorEq, Int.reduceEq, Int.reduceLT, Int.reduceLE, Int.reduceNeg, Int.reduceToNat, Int.reduceMul, Int.reduceAdd, Int.reduceSub, t5, t6, t47, t48, t49, k45'] | simp (disch := (first | omega | (simp only [go_sem]; done) | (simp only [lens]; omega))) only [cds, t5, t6, t47, t48, t49, k45'])))
              exact ⟨_, Sub.put Sub.refl hb, q⟩
      · have k43' : ¬ (c.toNat : Int) = 43 := by omega
        have k45' : ¬ (c.toNat : Int) = 45 := by omega
        ((try simp -implicitDefEqProofs only [later, laterE, laterD, laterR]); (repeat (first | simp -implicitDefEqProofs only [go_sem, ↓reduceIte, Nat.reduceEqDiff, Nat.reduceAdd, Nat.reduceLeDiff, Nat.reduceLT, Nat.reduceMul, reduceCtorEq, Int.reduceEq, Int.reduceLT, Int.reduceLE, Int.reduceNeg, Int.reduceToNat, Int.reduceMul, Int.reduceAdd, Int.reduceSub, k43', k45'] | simp (disch := (first | omega | (simp only [go_sem]; done) | (simp only [lens]; omega))) only [cds, k43', k45'])))
        intro b hb
        ((try simp -implicitDefEqProofs only [later, laterE, laterD, laterR]); (repeat (first | simp -implicitDefEqProofs only [go_sem, ↓reduceIte, Nat.reduceEqDiff, Nat.reduceAdd, Nat.reduceLeDiff, Nat.reduceLT, Nat.reduceMul, reduceCtorEq, Int.reduceEq, Int.reduceLT, Int.reduceLE, Int.reduceNeg, Int.reduceToNat, Int.reduceMul, Int.reduceAdd, Int.reduceSub] | simp (disch := (first | omega | (simp only [go_sem]; done) | (simp only [lens]; omega))) only [cds])))
        refine E.loopX AC.mono (fun (i : Nat) a' h' => ∃ n : Nat, i ≤ (c :: r).length ∧ ((c :: r).take i).all isDg = true ∧ n = val ((c :: r).take i) ∧ h' = hadd h b (.cells (bytesIn (c :: r)) false) ∧ a'.d = [] ∧ a'.t 5 = .str (c :: r) ∧ a'.t 6 = .int .i64 (n : Nat) ∧ a'.t 47 = .sl b 0 1 (c :: r).length ∧ a'.t 48 = .int .i64 (c :: r).length ∧ a'.t 49 = .int .i64 i) (fun i => (c :: r).length - i) 0 ?_ ?_
        · refine ⟨0, Nat.zero_le _, rfl, rfl, rfl, rfl, ?_⟩
          ((try simp -implicitDefEqProofs only [later, laterE, laterD, laterR]); (repeat (first | simp -implicitDefEqProofs only [go_sem, ↓reduceIte, Nat.reduceEqDiff, Nat.reduceAdd, Nat.reduceLeDiff, Nat.reduceLT, Nat.reduceMul, reduceCtorEq, Int.reduceEq, Int.reduceLT, Int.reduceLE, Int.reduceNeg, Int.reduceToNat, Int.reduceMul, Int.reduceAdd, Int.reduceSub] | simp (disch := (first | omega | (simp only [go_sem]; done) | (simp only [lens]; omega))) only [cds])))
        · rintro i ⟨t, d⟩ h' ⟨n, hi, hall, hn, rfl, hd, t5, t6, t47, t48, t49⟩
          simp only at hd t5 t6 t47 t48 t49; subst hd
          have hbl := bytesIn_len (c :: r)
          have hnl := val_lt _ hall
          rw [← hn, List.length_take] at hnl
          have hp10 : 10 ^ min i (c :: r).length ≤ 10 ^ 18 := Nat.pow_le_pow_right (by decide) (by omega)
          have hn18 : n < 1000000000000000000 := Nat.lt_of_lt_of_le hnl hp10
          by_cases ci : i < (c :: r).length
          · have hn17 : n < 100000000000000000 := Nat.lt_of_lt_of_le hnl (Nat.pow_le_pow_right (n := 10) (j := 17) (by decide) (by omega))
            obtain ⟨x, hc⟩ : ∃ x, (c :: r)[i]? = some x := ⟨(c :: r)[i], List.getElem?_eq_getElem ci⟩
            have hcell : (bytesIn (c :: r))[i]? = some (.int .u8 (x.toNat : Nat)) := by rw [bytesIn_get, hc]; rfl
            have hxl := x.toNat_lt
            by_cases cd : 48 ≤ x.toNat ∧ x.toNat ≤ 57
            · have hall' : ((c :: r).take (i + 1)).all isDg = true := by
                rw [List.take_succ_eq_append_getElem ci, List.all_append, hall]
                have : (c :: r)[i] = x := (List.getElem?_eq_some_iff.1 hc).2
                rw [this]
                simp [isDg, cd]
              have hv := val_step hc
              rw [← hn] at hv
              have e1 : IntKind.u8.wrap (((x.toNat : Nat) : Int) - 48) = ((x.toNat - 48 : Nat) : Int) := by rw [wrap_u8m]; omega
              have hy9' : x.toNat - 48 ≤ 9 := by omega
              generalize x.toNat - 48 = y at *
              have w1 : IntKind.i64.wrap ((n : Int) * 10) = (n : Int) * 10 := wrap_i64_id (by omega) (by omega)
              have w2 : IntKind.i64.wrap ((n : Int) * 10 + (y : Int)) = (n : Int) * 10 + y := wrap_i64_id (by omega) (by omega)
              by_cases hy9 : y ≤ 9
              · ((try simp -implicitDefEqProofs only [later, laterE, laterD, laterR]); (repeat (first | simp -implicitDefEqProofs only [go_sem, ↓reduceIte, Nat.reduceEqDiff, Nat.reduceAdd, Nat.reduceLeDiff, Nat.reduceLT, Nat.reduceMul, reduceCtorEq, Int.reduceEq, Int.reduceLT, Int.reduceLE, Int.reduceNeg, Int.reduceToNat, Int.reduceMul, Int.reduceAdd, Int.reduceSub, t5, t6, t47, t48, t49, hcell, e1, w1, w2] | simp (disch := (first | omega | (simp only [go_sem]; done) | (simp only [lens]; omega))) only [cds, t5, t6, t47, t48, t49, hcell, e1, w1, w2])))
                refine ⟨i + 1, ?_⟩
                ((try simp -implicitDefEqProofs only [later, laterE, laterD, laterR]); (repeat (first | simp -implicitDefEqProofs only [go_sem, ↓reduceIte, Nat.reduceEqDiff, Nat.reduceAdd, Nat.reduceLeDiff, Nat.reduceLT, Nat.reduceMul, reduceCtorEq, Int.reduceEq, Int.reduceLT, Int.reduceLE, Int.reduceNeg, Int.reduceToNat, Int.reduceMul, Int.reduceAdd, Int.reduceSub, t5, t6, t47, t48, t49, hcell] | simp (disch := (first | omega | (simp only [go_sem]; done) | (simp only [lens]; omega))) only [cds, t5, t6, t47, t48, t49, hcell])))
                refine ⟨by omega, n * 10 + y, by omega, hall', hv.symm, ?_⟩
                ((repeat' apply And.intro) <;> (first | omega | rfl | assumption | (congr 1 <;> omega) | skip))
              · exfalso; omega
            · obtain ⟨y, hy, hy9⟩ : ∃ y : Nat, IntKind.u8.wrap (((x.toNat : Nat) : Int) - 48) = y ∧ 9 < y := ⟨((((x.toNat : Nat) : Int) - 48) % 256).toNat, by rw [wrap_u8m]; omega, by omega⟩
              have q := (qs fun g => by have := dg_at g.2.1 hc; omega)
              ((try simp -implicitDefEqProofs only [later, laterE, laterD, laterR]); (repeat (first | simp -implicitDefEqProofs only [go_sem, ↓reduceIte, Nat.reduceEqDiff, Nat.reduceAdd, Nat.reduceLeDiff, Nat.reduceLT, Nat.reduceMul, reduceCtorEq, Int.reduceEq, Int.reduceLT, Int.reduceLE, Int.reduceNeg, Int.reduceToNat, Int.reduceMul, Int.reduceAdd, Int.reduceSub, t5, t6, t47, t48, t49, hcell, hy] | simp (disch := (first | omega | (simp only [go_sem]; done) | (simp only [lens]; omega))) only [cds, t5, t6, t47, t48, t49, hcell, hy])))
              exact ⟨_, Sub.put Sub.refl hb, q⟩
          · have hi' : i = (c :: r).length := by omega
            subst hi'
            rw [List.take_length] at hn
            have hn2 := hn
            have q := (hq (n : Int) .nilif (by omega) (by omega) (.inl rfl) (fun g => ⟨by rw [hn2], rfl⟩))
            ((try simp -implicitDefEqProofs only [later, laterE, laterD, laterR]); (repeat (first | simp -implicitDefEqProofs only [go_sem, ↓reduceIte, Nat.reduceEqDiff, Nat.reduceAdd, Nat.reduceLeDiff, Nat.reduceLT, Nat.reduceMul, reduceCtorEq, Int.reduceEq, Int.reduceLT, Int.reduceLE, Int.reduceNeg, Int.reduceToNat, Int.reduceMul, Int.reduceAdd, Int.reduceSub, t5, t6, t47, t48, t49, k45'] | simp (disch := (first | omega | (simp only [go_sem]; done) | (simp only [lens]; omega))) only [cds, t5, t6, t47, t48, t49, k45'])))
            exact ⟨_, Sub.put Sub.refl hb, q⟩
  · by_cases c1 : 0 < s.length
    · ((try simp -implicitDefEqProofs only [later, laterE, laterD, laterR]); (repeat (first | simp -implicitDefEqProofs only [go_sem, ↓reduceIte, Nat.reduceEqDiff, Nat.reduceAdd, Nat.reduceLeDiff, Nat.reduceLT, Nat.reduceMul, reduceCtorEq, Int.reduceEq, Int.reduceLT, Int.reduceLE, Int.reduceNeg, Int.reduceToNat, Int.reduceMul, Int.reduceAdd, Int.reduceSub] | simp (disch := (first | omega | (simp only [go_sem]; done) | (simp only [lens]; omega))) only [cds])))
      refine parseInt_ac s hl fun n e h1 h2 h3 h4 => ?_
      rcases h3 with rfl | rfl | rfl
      all_goals
        ((try simp -implicitDefEqProofs only [later, laterE, laterD, laterR]); (repeat (first | simp -implicitDefEqProofs only [go_sem, ↓reduceIte, Nat.reduceEqDiff, Nat.reduceAdd, Nat.reduceLeDiff, Nat.reduceLT, Nat.reduceMul, reduceCtorEq, Int.reduceEq, Int.reduceLT, Int.reduceLE, Int.reduceNeg, Int.reduceToNat, Int.reduceMul, Int.reduceAdd, Int.reduceSub] | simp (disch := (first | omega | (simp only [go_sem]; done) | (simp only [lens]; omega))) only [cds])))
        exact ⟨_, Sub.refl, hq n _ h1 h2 (by simp [Err3]) h4⟩
    · ((try simp -implicitDefEqProofs only [later, laterE, laterD, laterR]); (repeat (first | simp -implicitDefEqProofs only [go_sem, ↓reduceIte, Nat.reduceEqDiff, Nat.reduceAdd, Nat.reduceLeDiff, Nat.reduceLT, Nat.reduceMul, reduceCtorEq, Int.reduceEq, Int.reduceLT, Int.reduceLE, Int.reduceNeg, Int.reduceToNat, Int.reduceMul, Int.reduceAdd, Int.reduceSub] | simp (disch := (first | omega | (simp only [go_sem]; done) | (simp only [lens]; omega))) only [cds])))
      refine parseInt_ac s hl fun n e h1 h2 h3 h4 => ?_
      rcases h3 with rfl | rfl | rfl
      all_goals
        ((try simp -implicitDefEqProofs only [later, laterE, laterD, laterR]); (repeat (first | simp -implicitDefEqProofs only [go_sem, ↓reduceIte, Nat.reduceEqDiff, Nat.reduceAdd, Nat.reduceLeDiff, Nat.reduceLT, Nat.reduceMul, reduceCtorEq, Int.reduceEq, Int.reduceLT, Int.reduceLE, Int.reduceNeg, Int.reduceToNat, Int.reduceMul, Int.reduceAdd, Int.reduceSub] | simp (disch := (first | omega | (simp only [go_sem]; done) | (simp only [lens]; omega))) only [cds])))
        exact ⟨_, Sub.refl, hq n _ h1 h2 (by simp [Err3]) h4⟩
end Go.Proofs.YtijipnkdabdioabGreatDoor
