/- Walks that serve several seats: formatBase10. -/
import Derived.Test.YtijipnkdabdioabGreatDoorLNum
set_option linter.unusedSimpArgs false
set_option linter.unusedVariables false
namespace Go.Proofs.YtijipnkdabdioabGreatDoor
open Mir
variable {h : H} {Q : V → H → Prop}
theorem dw7 (w : Nat) : (w % 100000000 % 10000 % 100) % 10 = w % 10 := by omega
theorem dw6 (w : Nat) : (w % 100000000 % 10000 % 100) / 10 = w / 10 % 10 := by omega
theorem dw5 (w : Nat) : (w % 100000000 % 10000 / 100) % 10 = w / 100 % 10 := by omega
theorem dw4 (w : Nat) : (w % 100000000 % 10000 / 100) / 10 = w / 1000 % 10 := by omega
theorem dw3 (w : Nat) : (w % 100000000 / 10000 % 100) % 10 = w / 10000 % 10 := by omega
theorem dw2 (w : Nat) : (w % 100000000 / 10000 % 100) / 10 = w / 100000 % 10 := by omega
theorem dw1 (w : Nat) : (w % 100000000 / 10000 / 100) % 10 = w / 1000000 % 10 := by omega
theorem dw0 (w : Nat) : (w % 100000000 / 10000 / 100) / 10 = w / 10000000 % 10 := by omega
set_option maxRecDepth 100000 in
set_option maxHeartbeats 8000000 in
theorem format10_ac (u nd b o : Nat) (cs : List V) (hb : h b = some (.cells cs false)) (hle : o + nd ≤ cs.length) (hu : u < 10 ^ nd) (hu64 : u < 18446744073709551616) (hnd : nd ≤ 20) (hq : Q (.tup []) (hadd h b (.cells (cs.take o ++ bytesIn (pad nd u) ++ cs.drop (o + nd)) false))) :
    AC pg (.fn 79) [.sl b o 1 nd, .int .u64 (u : Nat)] h Q := by
  refine AC.fn' (g := g79) rfl (by simp only [List.length_cons, List.length_nil, g79]; decide) ?_; simp only [g79]
  rw [show ([48, 48, 48, 49, 48, 50, 48, 51, 48, 52, 48, 53, 48, 54, 48, 55, 48, 56, 48, 57, 49, 48, 49, 49, 49, 50, 49, 51, 49, 52, 49, 53, 49, 54, 49, 55, 49, 56, 49, 57, 50, 48, 50, 49, 50, 50, 50, 51, 50, 52, 50, 53, 50, 54, 50, 55, 50, 56, 50, 57, 51, 48, 51, 49, 51, 50, 51, 51, 51, 52, 51, 53, 51, 54, 51, 55, 51, 56, 51, 57, 52, 48, 52, 49, 52, 50, 52, 51, 52, 52, 52, 53, 52, 54, 52, 55, 52, 56, 52, 57, 53, 48, 53, 49, 53, 50, 53, 51, 53, 52, 53, 53, 53, 54, 53, 55, 53, 56, 53, 57, 54, 48, 54, 49, 54, 50, 54, 51, 54, 52, 54, 53, 54, 54, 54, 55, 54, 56, 54, 57, 55, 48, 55, 49, 55, 50, 55, 51, 55, 52, 55, 53, 55, 54, 55, 55, 55, 56, 55, 57, 56, 48, 56, 49, 56, 50, 56, 51, 56, 52, 56, 53, 56, 54, 56, 55, 56, 56, 56, 57, 57, 48, 57, 49, 57, 50, 57, 51, 57, 52, 57, 53, 57, 54, 57, 55, 57, 56, 57, 57] : List UInt8) = smalls from rfl]
  have hsl := smalls_len
  generalize hS : smalls = S at *
  have hself : h = hadd h b (.cells cs false) := by
    funext i
    by_cases c : i = b
    · subst c; rw [hadd_same, hb]
    · rw [hadd_ne c]
  have hsm : ∀ i < 200, (S[i]?).map UInt8.toNat = some (if i % 2 = 0 then 48 + i / 2 / 10 else 48 + i / 2 % 10) := hS ▸ smalls_get
  ((try simp -implicitDefEqProofs only [later, laterE, laterD, laterR]); (repeat (first | simp -implicitDefEqProofs only [go_sem, ↓reduceIte, Nat.reduceEqDiff, Nat.reduceAdd, Nat.reduceLeDiff, Nat.reduceLT, Nat.reduceMul, reduceCtorEq, Int.reduceEq, Int.reduceLT, Int.reduceLE, Int.reduceNeg, Int.reduceToNat, Int.reduceMul, Int.reduceAdd, Int.reduceSub] | simp (disch := (first | omega | (simp only [go_sem]; done) | (simp only [lens]; omega))) only [cds])))
  refine E.loopX AC.mono (fun (m : Nat) a' h' => ∃ c, m ≤ nd ∧ FB cs o nd u m c ∧ h' = hadd h b (.cells c false) ∧ a'.d = [] ∧ a'.t 0 = .sl b o 1 nd ∧ a'.t 1 = .int .u64 (u / 10 ^ (nd - m) : Nat) ∧ a'.t 4 = .int .i64 m) (fun m => m) nd ?_ ?_
  · refine ⟨cs, Nat.le_refl _, FB.start, hself, rfl, ?_⟩
    ((try simp -implicitDefEqProofs only [later, laterE, laterD, laterR]); (repeat (first | simp -implicitDefEqProofs only [go_sem, ↓reduceIte, Nat.reduceEqDiff, Nat.reduceAdd, Nat.reduceLeDiff, Nat.reduceLT, Nat.reduceMul, reduceCtorEq, Int.reduceEq, Int.reduceLT, Int.reduceLE, Int.reduceNeg, Int.reduceToNat, Int.reduceMul, Int.reduceAdd, Int.reduceSub] | simp (disch := (first | omega | (simp only [go_sem]; done) | (simp only [lens]; omega))) only [cds])))
    rw [Nat.sub_self, Nat.pow_zero, Nat.div_one]
  · rintro m ⟨t, d⟩ h' ⟨c, hm, F, rfl, hd, t0, t1, t4⟩
    simp only at hd t0 t1 t4; subst hd
    have hw64 : u / 10 ^ (nd - m) < 18446744073709551616 := Nat.lt_of_le_of_lt (Nat.div_le_self _ _) hu64
    by_cases c8 : 8 ≤ m
    · obtain ⟨k, rfl⟩ : ∃ k, m = k + 8 := ⟨m - 8, by omega⟩
      have he : ∀ (r P : Nat), r ≤ 7 → P = 10 ^ (7 - r) → u / 10 ^ (nd - 1 - (k + r)) = u / 10 ^ (nd - (k + 8)) / P := fun r P hr hP => by
        rw [hP, Nat.div_div_eq_div_mul, ← Nat.pow_add]; congr 2; omega
      have hnext : u / 10 ^ (nd - k) = u / 10 ^ (nd - (k + 8)) / 100000000 := by
        rw [Nat.div_div_eq_div_mul, show (100000000 : Nat) = 10 ^ 8 from by decide, ← Nat.pow_add]; congr 2; omega
      generalize u / 10 ^ (nd - (k + 8)) = w at *
      have hlc := F.len
      have hz : ∀ r : Nat, r ≤ 8 → (((k + 8 : Nat) : Int) - (r : Nat)).toNat = k + 8 - r := fun r hr => by omega
      have x0 : (((k + 8 : Nat) : Int) - 8).toNat = k := by omega
      have x1 : (((k + 8 : Nat) : Int) - 7).toNat = k + 1 := by omega
      have x2 : (((k + 8 : Nat) : Int) - 6).toNat = k + 2 := by omega
      have x3 : (((k + 8 : Nat) : Int) - 5).toNat = k + 3 := by omega
      have x4 : (((k + 8 : Nat) : Int) - 4).toNat = k + 4 := by omega
      have x5 : (((k + 8 : Nat) : Int) - 3).toNat = k + 5 := by omega
      have x6 : (((k + 8 : Nat) : Int) - 2).toNat = k + 6 := by omega
      have x7 : (((k + 8 : Nat) : Int) - 1).toNat = k + 7 := by omega
      ((try simp -implicitDefEqProofs only [later, laterE, laterD, laterR]); (repeat (first | simp -implicitDefEqProofs only [go_sem, ↓reduceIte, Nat.reduceEqDiff, Nat.reduceAdd, Nat.reduceLeDiff, Nat.reduceLT, Nat.reduceMul, reduceCtorEq, Int.reduceEq, Int.reduceLT, Int.reduceLE, Int.reduceNeg, Int.reduceToNat, Int.reduceMul, Int.reduceAdd, Int.reduceSub, t0, t1, t4] | simp (disch := (first | omega | (simp only [go_sem]; done) | (simp only [lens]; omega))) only [cds, t0, t1, t4])))
      refine goP_tab hsm (by omega) fun c7 e7 => ?_
      ((try simp -implicitDefEqProofs only [later, laterE, laterD, laterR]); (repeat (first | simp -implicitDefEqProofs only [go_sem, ↓reduceIte, Nat.reduceEqDiff, Nat.reduceAdd, Nat.reduceLeDiff, Nat.reduceLT, Nat.reduceMul, reduceCtorEq, Int.reduceEq, Int.reduceLT, Int.reduceLE, Int.reduceNeg, Int.reduceToNat, Int.reduceMul, Int.reduceAdd, Int.reduceSub, t0, t1, t4] | simp (disch := (first | omega | (simp only [go_sem]; done) | (simp only [lens]; omega))) only [cds, t0, t1, t4])))
      refine goP_tab hsm (by omega) fun c6 e6 => ?_
      have y7 := dw7 w
      have y6 := dw6 w
      generalize hX7 : w % 100000000 % 10000 % 100 = X7 at y7 y6
      replace e7 : c7.toNat = 48 + X7 % 10 := by rw [if_neg (by omega)] at e7; omega
      replace e6 : c6.toNat = 48 + X7 / 10 := by rw [if_pos (by omega)] at e6; omega
      have F7 := F.step (m := k + 7) (v := .int .u8 (c7.toNat : Nat)) hle (by omega) (dgv_of (q := w) (by rw [he 7 1 (by omega) (by decide)]; rw [Nat.div_one]) (by omega))
      have F6 := F7.step (m := k + 6) (v := .int .u8 (c6.toNat : Nat)) hle (by omega) (dgv_of (q := w / 10) (by rw [he 6 10 (by omega) (by decide)]) (by omega))
      have l7 := F7.len
      have l6 := F6.len
      obtain ⟨m6, hm6⟩ : ∃ x, x = put1 (put1 c (o + (k + 7)) (.int .u8 (c7.toNat : Nat))) (o + (k + 6)) (.int .u8 (c6.toNat : Nat)) := ⟨_, rfl⟩
      ((try simp -implicitDefEqProofs only [later, laterE, laterD, laterR]); (repeat (first | simp -implicitDefEqProofs only [go_sem, ↓reduceIte, Nat.reduceEqDiff, Nat.reduceAdd, Nat.reduceLeDiff, Nat.reduceLT, Nat.reduceMul, reduceCtorEq, Int.reduceEq, Int.reduceLT, Int.reduceLE, Int.reduceNeg, Int.reduceToNat, Int.reduceMul, Int.reduceAdd, Int.reduceSub, t0, t1, t4, x7, x6, put1_eq] | simp (disch := (first | omega | (simp only [go_sem]; done) | (simp only [lens]; omega))) only [cds, t0, t1, t4, x7, x6, put1_eq])))
      rw [← hm6] at F6 l6 ⊢
      clear l7 F7 hm6 e7 e6 y7 y6 hX7
      refine goP_tab hsm (by omega) fun c5 e5 => ?_
      ((try simp -implicitDefEqProofs only [later, laterE, laterD, laterR]); (repeat (first | simp -implicitDefEqProofs only [go_sem, ↓reduceIte, Nat.reduceEqDiff, Nat.reduceAdd, Nat.reduceLeDiff, Nat.reduceLT, Nat.reduceMul, reduceCtorEq, Int.reduceEq, Int.reduceLT, Int.reduceLE, Int.reduceNeg, Int.reduceToNat, Int.reduceMul, Int.reduceAdd, Int.reduceSub, t0, t1, t4] | simp (disch := (first | omega | (simp only [go_sem]; done) | (simp only [lens]; omega))) only [cds, t0, t1, t4])))
      refine goP_tab hsm (by omega) fun c4 e4 => ?_
      have y5 := dw5 w
      have y4 := dw4 w
      generalize hX5 : w % 100000000 % 10000 / 100 = X5 at y5 y4
      replace e5 : c5.toNat = 48 + X5 % 10 := by rw [if_neg (by omega)] at e5; omega
      replace e4 : c4.toNat = 48 + X5 / 10 := by rw [if_pos (by omega)] at e4; omega
      have F5 := F6.step (m := k + 5) (v := .int .u8 (c5.toNat : Nat)) hle (by omega) (dgv_of (q := w / 100) (by rw [he 5 100 (by omega) (by decide)]) (by omega))
      have F4 := F5.step (m := k + 4) (v := .int .u8 (c4.toNat : Nat)) hle (by omega) (dgv_of (q := w / 1000) (by rw [he 4 1000 (by omega) (by decide)]) (by omega))
      have l5 := F5.len
      have l4 := F4.len
      obtain ⟨m4, hm4⟩ : ∃ x, x = put1 (put1 m6 (o + (k + 5)) (.int .u8 (c5.toNat : Nat))) (o + (k + 4)) (.int .u8 (c4.toNat : Nat)) := ⟨_, rfl⟩
      ((try simp -implicitDefEqProofs only [later, laterE, laterD, laterR]); (repeat (first | simp -implicitDefEqProofs only [go_sem, ↓reduceIte, Nat.reduceEqDiff, Nat.reduceAdd, Nat.reduceLeDiff, Nat.reduceLT, Nat.reduceMul, reduceCtorEq, Int.reduceEq, Int.reduceLT, Int.reduceLE, Int.reduceNeg, Int.reduceToNat, Int.reduceMul, Int.reduceAdd, Int.reduceSub, t0, t1, t4, x5, x4, put1_eq] | simp (disch := (first | omega | (simp only [go_sem]; done) | (simp only [lens]; omega))) only [cds, t0, t1, t4, x5, x4, put1_eq])))
      rw [← hm4] at F4 l4 ⊢
      clear l5 F5 hm4 e5 e4 y5 y4 hX5
      refine goP_tab hsm (by omega) fun c3 e3 => ?_
      ((try simp -implicitDefEqProofs only [later, laterE, laterD, laterR]); (repeat (first | simp -implicitDefEqProofs only [go_sem, ↓reduceIte, Nat.reduceEqDiff, Nat.reduceAdd, Nat.reduceLeDiff, Nat.reduceLT, Nat.reduceMul, reduceCtorEq, Int.reduceEq, Int.reduceLT, Int.reduceLE, Int.reduceNeg, Int.reduceToNat, Int.reduceMul, Int.reduceAdd, Int.reduceSub, t0, t1, t4] | simp (disch := (first | omega | (simp only [go_sem]; done) | (simp only [lens]; omega))) only [cds, t0, t1, t4])))
      refine goP_tab hsm (by omega) fun c2 e2 => ?_
      have y3 := dw3 w
      have y2 := dw2 w
      generalize hX3 : w % 100000000 / 10000 % 100 = X3 at y3 y2
      replace e3 : c3.toNat = 48 + X3 % 10 := by rw [if_neg (by omega)] at e3; omega
      replace e2 : c2.toNat = 48 + X3 / 10 := by rw [if_pos (by omega)] at e2; omega
      have F3 := F4.step (m := k + 3) (v := .int .u8 (c3.toNat : Nat)) hle (by omega) (dgv_of (q := w / 10000) (by rw [he 3 10000 (by omega) (by decide)]) (by omega))
      have F2 := F3.step (m := k + 2) (v := .int .u8 (c2.toNat : Nat)) hle (by omega) (dgv_of (q := w / 100000) (by rw [he 2 100000 (by omega) (by decide)]) (by omega))
      have l3 := F3.len
      have l2 := F2.len
      obtain ⟨m2, hm2⟩ : ∃ x, x = put1 (put1 m4 (o + (k + 3)) (.int .u8 (c3.toNat : Nat))) (o + (k + 2)) (.int .u8 (c2.toNat : Nat)) := ⟨_, rfl⟩
      ((try simp -implicitDefEqProofs only [later, laterE, laterD, laterR]); (repeat (first | simp -implicitDefEqProofs only [go_sem, ↓reduceIte, Nat.reduceEqDiff, Nat.reduceAdd, Nat.reduceLeDiff, Nat.reduceLT, Nat.reduceMul, reduceCtorEq, Int.reduceEq, Int.reduceLT, Int.reduceLE, Int.reduceNeg, Int.reduceToNat, Int.reduceMul, Int.reduceAdd, Int.reduceSub, t0, t1, t4, x3, x2, put1_eq] | simp (disch := (first | omega | (simp only [go_sem]; done) | (simp only [lens]; omega))) only [cds, t0, t1, t4, x3, x2, put1_eq])))
      rw [← hm2] at F2 l2 ⊢
      clear l3 F3 hm2 e3 e2 y3 y2 hX3
      refine goP_tab hsm (by omega) fun c1 e1 => ?_
      ((try simp -implicitDefEqProofs only [later, laterE, laterD, laterR]); (repeat (first | simp -implicitDefEqProofs only [go_sem, ↓reduceIte, Nat.reduceEqDiff, Nat.reduceAdd, Nat.reduceLeDiff, Nat.reduceLT, Nat.reduceMul, reduceCtorEq, Int.reduceEq, Int.reduceLT, Int.reduceLE, Int.reduceNeg, Int.reduceToNat, Int.reduceMul, Int.reduceAdd, Int.reduceSub, t0, t1, t4] | simp (disch := (first | omega | (simp only [go_sem]; done) | (simp only [lens]; omega))) only [cds, t0, t1, t4])))
      refine goP_tab hsm (by omega) fun c0 e0 => ?_
      have y1 := dw1 w
      have y0 := dw0 w
      generalize hX1 : w % 100000000 / 10000 / 100 = X1 at y1 y0
      replace e1 : c1.toNat = 48 + X1 % 10 := by rw [if_neg (by omega)] at e1; omega
      replace e0 : c0.toNat = 48 + X1 / 10 := by rw [if_pos (by omega)] at e0; omega
      have F1 := F2.step (m := k + 1) (v := .int .u8 (c1.toNat : Nat)) hle (by omega) (dgv_of (q := w / 1000000) (by rw [he 1 1000000 (by omega) (by decide)]) (by omega))
      have F0 := F1.step (m := k) (v := .int .u8 (c0.toNat : Nat)) hle (by omega) (dgv_of (q := w / 10000000) (by have e := he 0 10000000 (by omega) (by decide); rw [Nat.add_zero] at e; rw [e]) (by omega))
      have l1 := F1.len
      have l0 := F0.len
      obtain ⟨m0, hm0⟩ : ∃ x, x = put1 (put1 m2 (o + (k + 1)) (.int .u8 (c1.toNat : Nat))) (o + k) (.int .u8 (c0.toNat : Nat)) := ⟨_, rfl⟩
      ((try simp -implicitDefEqProofs only [later, laterE, laterD, laterR]); (repeat (first | simp -implicitDefEqProofs only [go_sem, ↓reduceIte, Nat.reduceEqDiff, Nat.reduceAdd, Nat.reduceLeDiff, Nat.reduceLT, Nat.reduceMul, reduceCtorEq, Int.reduceEq, Int.reduceLT, Int.reduceLE, Int.reduceNeg, Int.reduceToNat, Int.reduceMul, Int.reduceAdd, Int.reduceSub, t0, t1, t4, x1, x0, put1_eq] | simp (disch := (first | omega | (simp only [go_sem]; done) | (simp only [lens]; omega))) only [cds, t0, t1, t4, x1, x0, put1_eq])))
      rw [← hm0] at F0 l0 ⊢
      clear l1 F1 hm0 e1 e0 y1 y0 hX1
      refine ⟨k, by omega, m0, by omega, F0, rfl, ?_⟩
      rw [hnext]
      ((repeat' apply And.intro) <;> (first | omega | rfl | assumption | (congr 1 <;> omega) | skip))
    · have hlc := F.len
      have hw : u / 10 ^ (nd - m) < 10 ^ m := by
        rw [Nat.div_lt_iff_lt_mul (Nat.pow_pos (by decide)), ← Nat.pow_add, show m + (nd - m) = nd from by omega]; exact hu
      have he : ∀ (r P : Nat), r + 1 ≤ m → P = 10 ^ (m - 1 - r) → u / 10 ^ (nd - 1 - r) = u / 10 ^ (nd - m) / P := fun r P hr hP => by
        rw [hP, Nat.div_div_eq_div_mul, ← Nat.pow_add]; congr 2; omega
      generalize u / 10 ^ (nd - m) = w at *
      have hcs : m = 0 ∨ m = 1 ∨ m = 2 ∨ m = 3 ∨ m = 4 ∨ m = 5 ∨ m = 6 ∨ m = 7 := by omega
      rcases hcs with rfl | rfl | rfl | rfl | rfl | rfl | rfl | rfl
      all_goals simp only [Nat.reducePow] at hw
      · have F0 := F
        ((try simp -implicitDefEqProofs only [later, laterE, laterD, laterR]); (repeat (first | simp -implicitDefEqProofs only [go_sem, ↓reduceIte, Nat.reduceEqDiff, Nat.reduceAdd, Nat.reduceLeDiff, Nat.reduceLT, Nat.reduceMul, reduceCtorEq, Int.reduceEq, Int.reduceLT, Int.reduceLE, Int.reduceNeg, Int.reduceToNat, Int.reduceMul, Int.reduceAdd, Int.reduceSub, t0, t1, t4] | simp (disch := (first | omega | (simp only [go_sem]; done) | (simp only [lens]; omega))) only [cds, t0, t1, t4])))
        have D := F0.done hle
        refine ⟨_, Sub.refl, ?_⟩
        rw [D]; exact hq
      · have G1 := F; have l1 := F.len
        ((try simp -implicitDefEqProofs only [later, laterE, laterD, laterR]); (repeat (first | simp -implicitDefEqProofs only [go_sem, ↓reduceIte, Nat.reduceEqDiff, Nat.reduceAdd, Nat.reduceLeDiff, Nat.reduceLT, Nat.reduceMul, reduceCtorEq, Int.reduceEq, Int.reduceLT, Int.reduceLE, Int.reduceNeg, Int.reduceToNat, Int.reduceMul, Int.reduceAdd, Int.reduceSub, t0, t1, t4] | simp (disch := (first | omega | (simp only [go_sem]; done) | (simp only [lens]; omega))) only [cds, t0, t1, t4])))
        have H0 := G1.step (m := 0) (v := .int .u8 ((48 + w : Nat) : Int)) hle (by omega) (by unfold dgv; rw [dg_nat, he 0 1 (by omega) (by decide)]; rw [Nat.div_one]; congr 2; omega)
        have D := H0.done hle
        have eN : 48 + (w : Int) = ((48 + w : Nat) : Int) := by omega
        simp only [Nat.add_zero] at D
        refine ⟨_, Sub.refl, ?_⟩
        simp only [put1_eq]; rw [eN, D]; exact hq
      · have G2 := F; have l2 := F.len
        ((try simp -implicitDefEqProofs only [later, laterE, laterD, laterR]); (repeat (first | simp -implicitDefEqProofs only [go_sem, ↓reduceIte, Nat.reduceEqDiff, Nat.reduceAdd, Nat.reduceLeDiff, Nat.reduceLT, Nat.reduceMul, reduceCtorEq, Int.reduceEq, Int.reduceLT, Int.reduceLE, Int.reduceNeg, Int.reduceToNat, Int.reduceMul, Int.reduceAdd, Int.reduceSub, t0, t1, t4] | simp (disch := (first | omega | (simp only [go_sem]; done) | (simp only [lens]; omega))) only [cds, t0, t1, t4])))
        refine goP_tab hsm (by omega) fun c1 e1 => ?_
        ((try simp -implicitDefEqProofs only [later, laterE, laterD, laterR]); (repeat (first | simp -implicitDefEqProofs only [go_sem, ↓reduceIte, Nat.reduceEqDiff, Nat.reduceAdd, Nat.reduceLeDiff, Nat.reduceLT, Nat.reduceMul, reduceCtorEq, Int.reduceEq, Int.reduceLT, Int.reduceLE, Int.reduceNeg, Int.reduceToNat, Int.reduceMul, Int.reduceAdd, Int.reduceSub, t0, t1, t4] | simp (disch := (first | omega | (simp only [go_sem]; done) | (simp only [lens]; omega))) only [cds, t0, t1, t4])))
        refine goP_tab hsm (by omega) fun c0 e0 => ?_
        have y1 : (w % 100) % 10 = w % 10 := by omega
        have y0 : (w % 100) / 10 = w / 10 % 10 := by omega
        generalize hX1 : w % 100 = X1 at y1 y0
        replace e1 : c1.toNat = 48 + X1 % 10 := by rw [if_neg (by omega)] at e1; omega
        replace e0 : c0.toNat = 48 + X1 / 10 := by rw [if_pos (by omega)] at e0; omega
        have G1 := G2.step (m := 1) (v := .int .u8 (c1.toNat : Nat)) hle (by omega) (dgv_of (q := w) (by rw [he 1 1 (by omega) (by decide)]; rw [Nat.div_one]) (by omega))
        have G0 := G1.step (m := 0) (v := .int .u8 (c0.toNat : Nat)) hle (by omega) (dgv_of (q := w / 10) (by rw [he 0 10 (by omega) (by decide)]) (by omega))
        have l1 := G1.len
        have l0 := G0.len
        ((try simp -implicitDefEqProofs only [later, laterE, laterD, laterR]); (repeat (first | simp -implicitDefEqProofs only [go_sem, ↓reduceIte, Nat.reduceEqDiff, Nat.reduceAdd, Nat.reduceLeDiff, Nat.reduceLT, Nat.reduceMul, reduceCtorEq, Int.reduceEq, Int.reduceLT, Int.reduceLE, Int.reduceNeg, Int.reduceToNat, Int.reduceMul, Int.reduceAdd, Int.reduceSub, t0, t1, t4, put1_eq] | simp (disch := (first | omega | (simp only [go_sem]; done) | (simp only [lens]; omega))) only [cds, t0, t1, t4, put1_eq])))
        have D := G0.done hle
        simp only [Nat.add_zero] at D
        refine ⟨_, Sub.refl, ?_⟩
        rw [D]; exact hq
      · have G3 := F; have l3 := F.len
        ((try simp -implicitDefEqProofs only [later, laterE, laterD, laterR]); (repeat (first | simp -implicitDefEqProofs only [go_sem, ↓reduceIte, Nat.reduceEqDiff, Nat.reduceAdd, Nat.reduceLeDiff, Nat.reduceLT, Nat.reduceMul, reduceCtorEq, Int.reduceEq, Int.reduceLT, Int.reduceLE, Int.reduceNeg, Int.reduceToNat, Int.reduceMul, Int.reduceAdd, Int.reduceSub, t0, t1, t4] | simp (disch := (first | omega | (simp only [go_sem]; done) | (simp only [lens]; omega))) only [cds, t0, t1, t4])))
        refine goP_tab hsm (by omega) fun c2 e2 => ?_
        ((try simp -implicitDefEqProofs only [later, laterE, laterD, laterR]); (repeat (first | simp -implicitDefEqProofs only [go_sem, ↓reduceIte, Nat.reduceEqDiff, Nat.reduceAdd, Nat.reduceLeDiff, Nat.reduceLT, Nat.reduceMul, reduceCtorEq, Int.reduceEq, Int.reduceLT, Int.reduceLE, Int.reduceNeg, Int.reduceToNat, Int.reduceMul, Int.reduceAdd, Int.reduceSub, t0, t1, t4] | simp (disch := (first | omega | (simp only [go_sem]; done) | (simp only [lens]; omega))) only [cds, t0, t1, t4])))
        refine goP_tab hsm (by omega) fun c1 e1 => ?_
        have y2 : (w % 100) % 10 = w % 10 := by omega
        have y1 : (w % 100) / 10 = w / 10 % 10 := by omega
        generalize hX2 : w % 100 = X2 at y2 y1
        replace e2 : c2.toNat = 48 + X2 % 10 := by rw [if_neg (by omega)] at e2; omega
        replace e1 : c1.toNat = 48 + X2 / 10 := by rw [if_pos (by omega)] at e1; omega
        have G2 := G3.step (m := 2) (v := .int .u8 (c2.toNat : Nat)) hle (by omega) (dgv_of (q := w) (by rw [he 2 1 (by omega) (by decide)]; rw [Nat.div_one]) (by omega))
        have G1 := G2.step (m := 1) (v := .int .u8 (c1.toNat : Nat)) hle (by omega) (dgv_of (q := w / 10) (by rw [he 1 10 (by omega) (by decide)]) (by omega))
        have l2 := G2.len
        have l1 := G1.len
        ((try simp -implicitDefEqProofs only [later, laterE, laterD, laterR]); (repeat (first | simp -implicitDefEqProofs only [go_sem, ↓reduceIte, Nat.reduceEqDiff, Nat.reduceAdd, Nat.reduceLeDiff, Nat.reduceLT, Nat.reduceMul, reduceCtorEq, Int.reduceEq, Int.reduceLT, Int.reduceLE, Int.reduceNeg, Int.reduceToNat, Int.reduceMul, Int.reduceAdd, Int.reduceSub, t0, t1, t4, put1_eq] | simp (disch := (first | omega | (simp only [go_sem]; done) | (simp only [lens]; omega))) only [cds, t0, t1, t4, put1_eq])))
        have H0 := G1.step (m := 0) (v := .int .u8 ((48 + w / 100 : Nat) : Int)) hle (by omega) (by unfold dgv; rw [dg_nat, he 0 100 (by omega) (by decide)]; congr 2; omega)
        have D := H0.done hle
        have eN : 48 + (w : Int) / 100 = ((48 + w / 100 : Nat) : Int) := by omega
        simp only [Nat.add_zero] at D
        refine ⟨_, Sub.refl, ?_⟩
        rw [eN, D]; exact hq
      · have G4 := F; have l4 := F.len
        ((try simp -implicitDefEqProofs only [later, laterE, laterD, laterR]); (repeat (first | simp -implicitDefEqProofs only [go_sem, ↓reduceIte, Nat.reduceEqDiff, Nat.reduceAdd, Nat.reduceLeDiff, Nat.reduceLT, Nat.reduceMul, reduceCtorEq, Int.reduceEq, Int.reduceLT, Int.reduceLE, Int.reduceNeg, Int.reduceToNat, Int.reduceMul, Int.reduceAdd, Int.reduceSub, t0, t1, t4] | simp (disch := (first | omega | (simp only [go_sem]; done) | (simp only [lens]; omega))) only [cds, t0, t1, t4])))
        refine goP_tab hsm (by omega) fun c3 e3 => ?_
        ((try simp -implicitDefEqProofs only [later, laterE, laterD, laterR]); (repeat (first | simp -implicitDefEqProofs only [go_sem, ↓reduceIte, Nat.reduceEqDiff, Nat.reduceAdd, Nat.reduceLeDiff, Nat.reduceLT, Nat.reduceMul, reduceCtorEq, Int.reduceEq, Int.reduceLT, Int.reduceLE, Int.reduceNeg, Int.reduceToNat, Int.reduceMul, Int.reduceAdd, Int.reduceSub, t0, t1, t4] | simp (disch := (first | omega | (simp only [go_sem]; done) | (simp only [lens]; omega))) only [cds, t0, t1, t4])))
        refine goP_tab hsm (by omega) fun c2 e2 => ?_
        have y3 : (w % 10000 % 100) % 10 = w % 10 := by omega
        have y2 : (w % 10000 % 100) / 10 = w / 10 % 10 := by omega
        generalize hX3 : w % 10000 % 100 = X3 at y3 y2
        replace e3 : c3.toNat = 48 + X3 % 10 := by rw [if_neg (by omega)] at e3; omega
        replace e2 : c2.toNat = 48 + X3 / 10 := by rw [if_pos (by omega)] at e2; omega
        have G3 := G4.step (m := 3) (v := .int .u8 (c3.toNat : Nat)) hle (by omega) (dgv_of (q := w) (by rw [he 3 1 (by omega) (by decide)]; rw [Nat.div_one]) (by omega))
        have G2 := G3.step (m := 2) (v := .int .u8 (c2.toNat : Nat)) hle (by omega) (dgv_of (q := w / 10) (by rw [he 2 10 (by omega) (by decide)]) (by omega))
        have l3 := G3.len
        have l2 := G2.len
        ((try simp -implicitDefEqProofs only [later, laterE, laterD, laterR]); (repeat (first | simp -implicitDefEqProofs only [go_sem, ↓reduceIte, Nat.reduceEqDiff, Nat.reduceAdd, Nat.reduceLeDiff, Nat.reduceLT, Nat.reduceMul, reduceCtorEq, Int.reduceEq, Int.reduceLT, Int.reduceLE, Int.reduceNeg, Int.reduceToNat, Int.reduceMul, Int.reduceAdd, Int.reduceSub, t0, t1, t4, put1_eq] | simp (disch := (first | omega | (simp only [go_sem]; done) | (simp only [lens]; omega))) only [cds, t0, t1, t4, put1_eq])))
        refine goP_tab hsm (by omega) fun c1 e1 => ?_
        ((try simp -implicitDefEqProofs only [later, laterE, laterD, laterR]); (repeat (first | simp -implicitDefEqProofs only [go_sem, ↓reduceIte, Nat.reduceEqDiff, Nat.reduceAdd, Nat.reduceLeDiff, Nat.reduceLT, Nat.reduceMul, reduceCtorEq, Int.reduceEq, Int.reduceLT, Int.reduceLE, Int.reduceNeg, Int.reduceToNat, Int.reduceMul, Int.reduceAdd, Int.reduceSub, t0, t1, t4] | simp (disch := (first | omega | (simp only [go_sem]; done) | (simp only [lens]; omega))) only [cds, t0, t1, t4])))
        refine goP_tab hsm (by omega) fun c0 e0 => ?_
        have y1 : (w % 10000 / 100) % 10 = w / 100 % 10 := by omega
        have y0 : (w % 10000 / 100) / 10 = w / 1000 % 10 := by omega
        generalize hX1 : w % 10000 / 100 = X1 at y1 y0
        replace e1 : c1.toNat = 48 + X1 % 10 := by rw [if_neg (by omega)] at e1; omega
        replace e0 : c0.toNat = 48 + X1 / 10 := by rw [if_pos (by omega)] at e0; omega
        have G1 := G2.step (m := 1) (v := .int .u8 (c1.toNat : Nat)) hle (by omega) (dgv_of (q := w / 100) (by rw [he 1 100 (by omega) (by decide)]) (by omega))
        have G0 := G1.step (m := 0) (v := .int .u8 (c0.toNat : Nat)) hle (by omega) (dgv_of (q := w / 1000) (by rw [he 0 1000 (by omega) (by decide)]) (by omega))
        have l1 := G1.len
        have l0 := G0.len
        ((try simp -implicitDefEqProofs only [later, laterE, laterD, laterR]); (repeat (first | simp -implicitDefEqProofs only [go_sem, ↓reduceIte, Nat.reduceEqDiff, Nat.reduceAdd, Nat.reduceLeDiff, Nat.reduceLT, Nat.reduceMul, reduceCtorEq, Int.reduceEq, Int.reduceLT, Int.reduceLE, Int.reduceNeg, Int.reduceToNat, Int.reduceMul, Int.reduceAdd, Int.reduceSub, t0, t1, t4, put1_eq] | simp (disch := (first | omega | (simp only [go_sem]; done) | (simp only [lens]; omega))) only [cds, t0, t1, t4, put1_eq])))
        have D := G0.done hle
        simp only [Nat.add_zero] at D
        refine ⟨_, Sub.refl, ?_⟩
        rw [D]; exact hq
      · have G5 := F; have l5 := F.len
        ((try simp -implicitDefEqProofs only [later, laterE, laterD, laterR]); (repeat (first | simp -implicitDefEqProofs only [go_sem, ↓reduceIte, Nat.reduceEqDiff, Nat.reduceAdd, Nat.reduceLeDiff, Nat.reduceLT, Nat.reduceMul, reduceCtorEq, Int.reduceEq, Int.reduceLT, Int.reduceLE, Int.reduceNeg, Int.reduceToNat, Int.reduceMul, Int.reduceAdd, Int.reduceSub, t0, t1, t4] | simp (disch := (first | omega | (simp only [go_sem]; done) | (simp only [lens]; omega))) only [cds, t0, t1, t4])))
        refine goP_tab hsm (by omega) fun c4 e4 => ?_
        ((try simp -implicitDefEqProofs only [later, laterE, laterD, laterR]); (repeat (first | simp -implicitDefEqProofs only [go_sem, ↓reduceIte, Nat.reduceEqDiff, Nat.reduceAdd, Nat.reduceLeDiff, Nat.reduceLT, Nat.reduceMul, reduceCtorEq, Int.reduceEq, Int.reduceLT, Int.reduceLE, Int.reduceNeg, Int.reduceToNat, Int.reduceMul, Int.reduceAdd, Int.reduceSub, t0, t1, t4] | simp (disch := (first | omega | (simp only [go_sem]; done) | (simp only [lens]; omega))) only [cds, t0, t1, t4])))
        refine goP_tab hsm (by omega) fun c3 e3 => ?_
        have y4 : (w % 10000 % 100) % 10 = w % 10 := by omega
        have y3 : (w % 10000 % 100) / 10 = w / 10 % 10 := by omega
        generalize hX4 : w % 10000 % 100 = X4 at y4 y3
        replace e4 : c4.toNat = 48 + X4 % 10 := by rw [if_neg (by omega)] at e4; omega
        replace e3 : c3.toNat = 48 + X4 / 10 := by rw [if_pos (by omega)] at e3; omega
        have G4 := G5.step (m := 4) (v := .int .u8 (c4.toNat : Nat)) hle (by omega) (dgv_of (q := w) (by rw [he 4 1 (by omega) (by decide)]; rw [Nat.div_one]) (by omega))
        have G3 := G4.step (m := 3) (v := .int .u8 (c3.toNat : Nat)) hle (by omega) (dgv_of (q := w / 10) (by rw [he 3 10 (by omega) (by decide)]) (by omega))
        have l4 := G4.len
        have l3 := G3.len
        ((try simp -implicitDefEqProofs only [later, laterE, laterD, laterR]); (repeat (first | simp -implicitDefEqProofs only [go_sem, ↓reduceIte, Nat.reduceEqDiff, Nat.reduceAdd, Nat.reduceLeDiff, Nat.reduceLT, Nat.reduceMul, reduceCtorEq, Int.reduceEq, Int.reduceLT, Int.reduceLE, Int.reduceNeg, Int.reduceToNat, Int.reduceMul, Int.reduceAdd, Int.reduceSub, t0, t1, t4, put1_eq] | simp (disch := (first | omega | (simp only [go_sem]; done) | (simp only [lens]; omega))) only [cds, t0, t1, t4, put1_eq])))
        refine goP_tab hsm (by omega) fun c2 e2 => ?_
        ((try simp -implicitDefEqProofs only [later, laterE, laterD, laterR]); (repeat (first | simp -implicitDefEqProofs only [go_sem, ↓reduceIte, Nat.reduceEqDiff, Nat.reduceAdd, Nat.reduceLeDiff, Nat.reduceLT, Nat.reduceMul, reduceCtorEq, Int.reduceEq, Int.reduceLT, Int.reduceLE, Int.reduceNeg, Int.reduceToNat, Int.reduceMul, Int.reduceAdd, Int.reduceSub, t0, t1, t4] | simp (disch := (first | omega | (simp only [go_sem]; done) | (simp only [lens]; omega))) only [cds, t0, t1, t4])))
        refine goP_tab hsm (by omega) fun c1 e1 => ?_
        have y2 : (w % 10000 / 100) % 10 = w / 100 % 10 := by omega
        have y1 : (w % 10000 / 100) / 10 = w / 1000 % 10 := by omega
        generalize hX2 : w % 10000 / 100 = X2 at y2 y1
        replace e2 : c2.toNat = 48 + X2 % 10 := by rw [if_neg (by omega)] at e2; omega
        replace e1 : c1.toNat = 48 + X2 / 10 := by rw [if_pos (by omega)] at e1; omega
        have G2 := G3.step (m := 2) (v := .int .u8 (c2.toNat : Nat)) hle (by omega) (dgv_of (q := w / 100) (by rw [he 2 100 (by omega) (by decide)]) (by omega))
        have G1 := G2.step (m := 1) (v := .int .u8 (c1.toNat : Nat)) hle (by omega) (dgv_of (q := w / 1000) (by rw [he 1 1000 (by omega) (by decide)]) (by omega))
        have l2 := G2.len
        have l1 := G1.len
        ((try simp -implicitDefEqProofs only [later, laterE, laterD, laterR]); (repeat (first | simp -implicitDefEqProofs only [go_sem, ↓reduceIte, Nat.reduceEqDiff, Nat.reduceAdd, Nat.reduceLeDiff, Nat.reduceLT, Nat.reduceMul, reduceCtorEq, Int.reduceEq, Int.reduceLT, Int.reduceLE, Int.reduceNeg, Int.reduceToNat, Int.reduceMul, Int.reduceAdd, Int.reduceSub, t0, t1, t4, put1_eq] | simp (disch := (first | omega | (simp only [go_sem]; done) | (simp only [lens]; omega))) only [cds, t0, t1, t4, put1_eq])))
        have H0 := G1.step (m := 0) (v := .int .u8 ((48 + w / 10000 : Nat) : Int)) hle (by omega) (by unfold dgv; rw [dg_nat, he 0 10000 (by omega) (by decide)]; congr 2; omega)
        have D := H0.done hle
        have eN : 48 + (w : Int) / 10000 = ((48 + w / 10000 : Nat) : Int) := by omega
        simp only [Nat.add_zero] at D
        refine ⟨_, Sub.refl, ?_⟩
        rw [eN, D]; exact hq
      · have G6 := F; have l6 := F.len
        ((try simp -implicitDefEqProofs only [later, laterE, laterD, laterR]); (repeat (first | simp -implicitDefEqProofs only [go_sem, ↓reduceIte, Nat.reduceEqDiff, Nat.reduceAdd, Nat.reduceLeDiff, Nat.reduceLT, Nat.reduceMul, reduceCtorEq, Int.reduceEq, Int.reduceLT, Int.reduceLE, Int.reduceNeg, Int.reduceToNat, Int.reduceMul, Int.reduceAdd, Int.reduceSub, t0, t1, t4] | simp (disch := (first | omega | (simp only [go_sem]; done) | (simp only [lens]; omega))) only [cds, t0, t1, t4])))
        refine goP_tab hsm (by omega) fun c5 e5 => ?_
        ((try simp -implicitDefEqProofs only [later, laterE, laterD, laterR]); (repeat (first | simp -implicitDefEqProofs only [go_sem, ↓reduceIte, Nat.reduceEqDiff, Nat.reduceAdd, Nat.reduceLeDiff, Nat.reduceLT, Nat.reduceMul, reduceCtorEq, Int.reduceEq, Int.reduceLT, Int.reduceLE, Int.reduceNeg, Int.reduceToNat, Int.reduceMul, Int.reduceAdd, Int.reduceSub, t0, t1, t4] | simp (disch := (first | omega | (simp only [go_sem]; done) | (simp only [lens]; omega))) only [cds, t0, t1, t4])))
        refine goP_tab hsm (by omega) fun c4 e4 => ?_
        have y5 : (w % 10000 % 100) % 10 = w % 10 := by omega
        have y4 : (w % 10000 % 100) / 10 = w / 10 % 10 := by omega
        generalize hX5 : w % 10000 % 100 = X5 at y5 y4
        replace e5 : c5.toNat = 48 + X5 % 10 := by rw [if_neg (by omega)] at e5; omega
        replace e4 : c4.toNat = 48 + X5 / 10 := by rw [if_pos (by omega)] at e4; omega
        have G5 := G6.step (m := 5) (v := .int .u8 (c5.toNat : Nat)) hle (by omega) (dgv_of (q := w) (by rw [he 5 1 (by omega) (by decide)]; rw [Nat.div_one]) (by omega))
        have G4 := G5.step (m := 4) (v := .int .u8 (c4.toNat : Nat)) hle (by omega) (dgv_of (q := w / 10) (by rw [he 4 10 (by omega) (by decide)]) (by omega))
        have l5 := G5.len
        have l4 := G4.len
        ((try simp -implicitDefEqProofs only [later, laterE, laterD, laterR]); (repeat (first | simp -implicitDefEqProofs only [go_sem, ↓reduceIte, Nat.reduceEqDiff, Nat.reduceAdd, Nat.reduceLeDiff, Nat.reduceLT, Nat.reduceMul, reduceCtorEq, Int.reduceEq, Int.reduceLT, Int.reduceLE, Int.reduceNeg, Int.reduceToNat, Int.reduceMul, Int.reduceAdd, Int.reduceSub, t0, t1, t4, put1_eq] | simp (disch := (first | omega | (simp only [go_sem]; done) | (simp only [lens]; omega))) only [cds, t0, t1, t4, put1_eq])))
        refine goP_tab hsm (by omega) fun c3 e3 => ?_
        ((try simp -implicitDefEqProofs only [later, laterE, laterD, laterR]); (repeat (first | simp -implicitDefEqProofs only [go_sem, ↓reduceIte, Nat.reduceEqDiff, Nat.reduceAdd, Nat.reduceLeDiff, Nat.reduceLT, Nat.reduceMul, reduceCtorEq, Int.reduceEq, Int.reduceLT, Int.reduceLE, Int.reduceNeg, Int.reduceToNat, Int.reduceMul, Int.reduceAdd, Int.reduceSub, t0, t1, t4] | simp (disch := (first | omega | (simp only [go_sem]; done) | (simp only [lens]; omega))) only [cds, t0, t1, t4])))
        refine goP_tab hsm (by omega) fun c2 e2 => ?_
        have y3 : (w % 10000 / 100) % 10 = w / 100 % 10 := by omega
        have y2 : (w % 10000 / 100) / 10 = w / 1000 % 10 := by omega
        generalize hX3 : w % 10000 / 100 = X3 at y3 y2
        replace e3 : c3.toNat = 48 + X3 % 10 := by rw [if_neg (by omega)] at e3; omega
        replace e2 : c2.toNat = 48 + X3 / 10 := by rw [if_pos (by omega)] at e2; omega
        have G3 := G4.step (m := 3) (v := .int .u8 (c3.toNat : Nat)) hle (by omega) (dgv_of (q := w / 100) (by rw [he 3 100 (by omega) (by decide)]) (by omega))
        have G2 := G3.step (m := 2) (v := .int .u8 (c2.toNat : Nat)) hle (by omega) (dgv_of (q := w / 1000) (by rw [he 2 1000 (by omega) (by decide)]) (by omega))
        have l3 := G3.len
        have l2 := G2.len
        ((try simp -implicitDefEqProofs only [later, laterE, laterD, laterR]); (repeat (first | simp -implicitDefEqProofs only [go_sem, ↓reduceIte, Nat.reduceEqDiff, Nat.reduceAdd, Nat.reduceLeDiff, Nat.reduceLT, Nat.reduceMul, reduceCtorEq, Int.reduceEq, Int.reduceLT, Int.reduceLE, Int.reduceNeg, Int.reduceToNat, Int.reduceMul, Int.reduceAdd, Int.reduceSub, t0, t1, t4, put1_eq] | simp (disch := (first | omega | (simp only [go_sem]; done) | (simp only [lens]; omega))) only [cds, t0, t1, t4, put1_eq])))
        refine goP_tab hsm (by omega) fun c1 e1 => ?_
        ((try simp -implicitDefEqProofs only [later, laterE, laterD, laterR]); (repeat (first | simp -implicitDefEqProofs only [go_sem, ↓reduceIte, Nat.reduceEqDiff, Nat.reduceAdd, Nat.reduceLeDiff, Nat.reduceLT, Nat.reduceMul, reduceCtorEq, Int.reduceEq, Int.reduceLT, Int.reduceLE, Int.reduceNeg, Int.reduceToNat, Int.reduceMul, Int.reduceAdd, Int.reduceSub, t0, t1, t4] | simp (disch := (first | omega | (simp only [go_sem]; done) | (simp only [lens]; omega))) only [cds, t0, t1, t4])))
        refine goP_tab hsm (by omega) fun c0 e0 => ?_
        have y1 : (w / 10000 % 100) % 10 = w / 10000 % 10 := by omega
        have y0 : (w / 10000 % 100) / 10 = w / 100000 % 10 := by omega
        generalize hX1 : w / 10000 % 100 = X1 at y1 y0
        replace e1 : c1.toNat = 48 + X1 % 10 := by rw [if_neg (by omega)] at e1; omega
        replace e0 : c0.toNat = 48 + X1 / 10 := by rw [if_pos (by omega)] at e0; omega
        have G1 := G2.step (m := 1) (v := .int .u8 (c1.toNat : Nat)) hle (by omega) (dgv_of (q := w / 10000) (by rw [he 1 10000 (by omega) (by decide)]) (by omega))
        have G0 := G1.step (m := 0) (v := .int .u8 (c0.toNat : Nat)) hle (by omega) (dgv_of (q := w / 100000) (by rw [he 0 100000 (by omega) (by decide)]) (by omega))
        have l1 := G1.len
        have l0 := G0.len
        ((try simp -implicitDefEqProofs only [later, laterE, laterD, laterR]); (repeat (first | simp -implicitDefEqProofs only [go_sem, ↓reduceIte, Nat.reduceEqDiff, Nat.reduceAdd, Nat.reduceLeDiff, Nat.reduceLT, Nat.reduceMul, reduceCtorEq, Int.reduceEq, Int.reduceLT, Int.reduceLE, Int.reduceNeg, Int.reduceToNat, Int.reduceMul, Int.reduceAdd, Int.reduceSub, t0, t1, t4, put1_eq] | simp (disch := (first | omega | (simp only [go_sem]; done) | (simp only [lens]; omega))) only [cds, t0, t1, t4, put1_eq])))
        have D := G0.done hle
        simp only [Nat.add_zero] at D
        refine ⟨_, Sub.refl, ?_⟩
        rw [D]; exact hq
      · have G7 := F; have l7 := F.len
        ((try simp -implicitDefEqProofs only [later, laterE, laterD, laterR]); (repeat (first | simp -implicitDefEqProofs only [go_sem, ↓reduceIte, Nat.reduceEqDiff, Nat.reduceAdd, Nat.reduceLeDiff, Nat.reduceLT, Nat.reduceMul, reduceCtorEq, Int.reduceEq, Int.reduceLT, Int.reduceLE, Int.reduceNeg, Int.reduceToNat, Int.reduceMul, Int.reduceAdd, Int.reduceSub, t0, t1, t4] | simp (disch := (first | omega | (simp only [go_sem]; done) | (simp only [lens]; omega))) only [cds, t0, t1, t4])))
        refine goP_tab hsm (by omega) fun c6 e6 => ?_
        ((try simp -implicitDefEqProofs only [later, laterE, laterD, laterR]); (repeat (first | simp -implicitDefEqProofs only [go_sem, ↓reduceIte, Nat.reduceEqDiff, Nat.reduceAdd, Nat.reduceLeDiff, Nat.reduceLT, Nat.reduceMul, reduceCtorEq, Int.reduceEq, Int.reduceLT, Int.reduceLE, Int.reduceNeg, Int.reduceToNat, Int.reduceMul, Int.reduceAdd, Int.reduceSub, t0, t1, t4] | simp (disch := (first | omega | (simp only [go_sem]; done) | (simp only [lens]; omega))) only [cds, t0, t1, t4])))
        refine goP_tab hsm (by omega) fun c5 e5 => ?_
        have y6 : (w % 10000 % 100) % 10 = w % 10 := by omega
        have y5 : (w % 10000 % 100) / 10 = w / 10 % 10 := by omega
        generalize hX6 : w % 10000 % 100 = X6 at y6 y5
        replace e6 : c6.toNat = 48 + X6 % 10 := by rw [if_neg (by omega)] at e6; omega
        replace e5 : c5.toNat = 48 + X6 / 10 := by rw [if_pos (by omega)] at e5; omega
        have G6 := G7.step (m := 6) (v := .int .u8 (c6.toNat : Nat)) hle (by omega) (dgv_of (q := w) (by rw [he 6 1 (by omega) (by decide)]; rw [Nat.div_one]) (by omega))
        have G5 := G6.step (m := 5) (v := .int .u8 (c5.toNat : Nat)) hle (by omega) (dgv_of (q := w / 10) (by rw [he 5 10 (by omega) (by decide)]) (by omega))
        have l6 := G6.len
        have l5 := G5.len
        ((try simp -implicitDefEqProofs only [later, laterE, laterD, laterR]); (repeat (first | simp -implicitDefEqProofs only [go_sem, ↓reduceIte, Nat.reduceEqDiff, Nat.reduceAdd, Nat.reduceLeDiff, Nat.reduceLT, Nat.reduceMul, reduceCtorEq, Int.reduceEq, Int.reduceLT, Int.reduceLE, Int.reduceNeg, Int.reduceToNat, Int.reduceMul, Int.reduceAdd, Int.reduceSub, t0, t1, t4, put1_eq] | simp (disch := (first | omega | (simp only [go_sem]; done) | (simp only [lens]; omega))) only [cds, t0, t1, t4, put1_eq])))
        refine goP_tab hsm (by omega) fun c4 e4 => ?_
        ((try simp -implicitDefEqProofs only [later, laterE, laterD, laterR]); (repeat (first | simp -implicitDefEqProofs only [go_sem, ↓reduceIte, Nat.reduceEqDiff, Nat.reduceAdd, Nat.reduceLeDiff, Nat.reduceLT, Nat.reduceMul, reduceCtorEq, Int.reduceEq, Int.reduceLT, Int.reduceLE, Int.reduceNeg, Int.reduceToNat, Int.reduceMul, Int.reduceAdd, Int.reduceSub, t0, t1, t4] | simp (disch := (first | omega | (simp only [go_sem]; done) | (simp only [lens]; omega))) only [cds, t0, t1, t4])))
        refine goP_tab hsm (by omega) fun c3 e3 => ?_
        have y4 : (w % 10000 / 100) % 10 = w / 100 % 10 := by omega
        have y3 : (w % 10000 / 100) / 10 = w / 1000 % 10 := by omega
        generalize hX4 : w % 10000 / 100 = X4 at y4 y3
        replace e4 : c4.toNat = 48 + X4 % 10 := by rw [if_neg (by omega)] at e4; omega
        replace e3 : c3.toNat = 48 + X4 / 10 := by rw [if_pos (by omega)] at e3; omega
        have G4 := G5.step (m := 4) (v := .int .u8 (c4.toNat : Nat)) hle (by omega) (dgv_of (q := w / 100) (by rw [he 4 100 (by omega) (by decide)]) (by omega))
        have G3 := G4.step (m := 3) (v := .int .u8 (c3.toNat : Nat)) hle (by omega) (dgv_of (q := w / 1000) (by rw [he 3 1000 (by omega) (by decide)]) (by omega))
        have l4 := G4.len
        have l3 := G3.len
        ((try simp -implicitDefEqProofs only [later, laterE, laterD, laterR]); (repeat (first | simp -implicitDefEqProofs only [go_sem, ↓reduceIte, Nat.reduceEqDiff, Nat.reduceAdd, Nat.reduceLeDiff, Nat.reduceLT, Nat.reduceMul, reduceCtorEq, Int.reduceEq, Int.reduceLT, Int.reduceLE, Int.reduceNeg, Int.reduceToNat, Int.reduceMul, Int.reduceAdd, Int.reduceSub, t0, t1, t4, put1_eq] | simp (disch := (first | omega | (simp only [go_sem]; done) | (simp only [lens]; omega))) only [cds, t0, t1, t4, put1_eq])))
        refine goP_tab hsm (by omega) fun c2 e2 => ?_
        ((try simp -implicitDefEqProofs only [later, laterE, laterD, laterR]); (repeat (first | simp -implicitDefEqProofs only [go_sem, ↓reduceIte, Nat.reduceEqDiff, Nat.reduceAdd, Nat.reduceLeDiff, Nat.reduceLT, Nat.reduceMul, reduceCtorEq, Int.reduceEq, Int.reduceLT, Int.reduceLE, Int.reduceNeg, Int.reduceToNat, Int.reduceMul, Int.reduceAdd, Int.reduceSub, t0, t1, t4] | simp (disch := (first | omega | (simp only [go_sem]; done) | (simp only [lens]; omega))) only [cds, t0, t1, t4])))
        refine goP_tab hsm (by omega) fun c1 e1 => ?_
        have y2 : (w / 10000 % 100) % 10 = w / 10000 % 10 := by omega
        have y1 : (w / 10000 % 100) / 10 = w / 100000 % 10 := by omega
        generalize hX2 : w / 10000 % 100 = X2 at y2 y1
        replace e2 : c2.toNat = 48 + X2 % 10 := by rw [if_neg (by omega)] at e2; omega
        replace e1 : c1.toNat = 48 + X2 / 10 := by rw [if_pos (by omega)] at e1; omega
        have G2 := G3.step (m := 2) (v := .int .u8 (c2.toNat : Nat)) hle (by omega) (dgv_of (q := w / 10000) (by rw [he 2 10000 (by omega) (by decide)]) (by omega))
        have G1 := G2.step (m := 1) (v := .int .u8 (c1.toNat : Nat)) hle (by omega) (dgv_of (q := w / 100000) (by rw [he 1 100000 (by omega) (by decide)]) (by omega))
        have l2 := G2.len
        have l1 := G1.len
        ((try simp -implicitDefEqProofs only [later, laterE, laterD, laterR]); (repeat (first | simp -implicitDefEqProofs only [go_sem, ↓reduceIte, Nat.reduceEqDiff, Nat.reduceAdd, Nat.reduceLeDiff, Nat.reduceLT, Nat.reduceMul, reduceCtorEq, Int.reduceEq, Int.reduceLT, Int.reduceLE, Int.reduceNeg, Int.reduceToNat, Int.reduceMul, Int.reduceAdd, Int.reduceSub, t0, t1, t4, put1_eq] | simp (disch := (first | omega | (simp only [go_sem]; done) | (simp only [lens]; omega))) only [cds, t0, t1, t4, put1_eq])))
        have H0 := G1.step (m := 0) (v := .int .u8 ((48 + w / 1000000 : Nat) : Int)) hle (by omega) (by unfold dgv; rw [dg_nat, he 0 1000000 (by omega) (by decide)]; congr 2; omega)
        have D := H0.done hle
        have eN : 48 + (w : Int) / 10000 / 100 = ((48 + w / 1000000 : Nat) : Int) := by omega
        simp only [Nat.add_zero] at D
        refine ⟨_, Sub.refl, ?_⟩
        rw [eN, D]; exact hq
end Go.Proofs.YtijipnkdabdioabGreatDoor
