/- The journal, walked, 5: JournalKeeps. -/
import Derived.Test.YtijipnkdabdioaaGreatDoorJ6
set_option linter.unusedSimpArgs false
set_option linter.unusedVariables false
namespace Go.Proofs.YtijipnkdabdioaaGreatDoor
open Mir SumMath
variable {h : H} {Q : V → H → Prop}
/-- A slice's first elements. -/
def cutSl (v : V) (n : Nat) : V := match v with
  | .sl b o es m => .sl b o es (min m n)
  | v => v
theorem Arm_live {D : Dk} (L : Live D) (n : Int) : Live (D.arm n) ∧ (D.arm n).bodies = D.bodies ∧ (D.arm n).now = D.now ∧ (D.arm n).safe = D.safe := by
  unfold Dk.arm
  rw [if_neg (by rw [L.dead]; decide)]
  exact ⟨⟨L.quota, by simp only; omega, L.dead⟩, rfl, rfl, rfl⟩
/-- Between two saves: a text is kept, or none is yet. -/
structure Betw (D : Dk) (o : Option Txt) : Prop where
  live : Live D
  safe : D.safe = D.now
  now : Shape D.bodies D.now o
theorem Betw.new : Betw (Dk.new 1048576) none := ⟨⟨by rfl, by decide, rfl⟩, rfl, [], [], rfl, rfl, .inl rfl⟩
theorem Betw.arm {D : Dk} {o : Option Txt} (B : Betw D o) (n : Int) : Betw (D.arm n) o := by
  obtain ⟨L, h1, h2, h3⟩ := Arm_live B.live n
  exact ⟨L, by rw [h3, h2]; exact B.safe, by rw [h1, h2]; exact B.now⟩
theorem Betw.len {D : Dk} {o : Option Txt} (B : Betw D o) : D.now.length ≤ 2 := B.now.cases.1
def keptV (o : Option Txt) : Txt := o.getD []
theorem keeps_ac (v : V) (ts : List Txt) (I : SlAt V.str h v ts) (av : V) (ns : List Int) (IA : IntsAt h av ns) (ha : ∀ x ∈ ns, x < 9223372036854775808) (kv : V) (keeps : List Int) (K : IntsAt h kv keeps) (names : Bool)
    (hG : HasPow h) (hE : HasErr h) (hq : Q (.bool true) h) : AC pg (.fn 3) [v, av, kv, .bool names] h Q := by
  refine AC.fn' (g := g3) rfl (by simp only [List.length_cons, List.length_nil, g3]; decide) ?_; simp only [g3]
  ((try simp -implicitDefEqProofs only [later, laterE, laterD, laterR]); (repeat (first | simp -implicitDefEqProofs only [go_sem, ↓reduceIte, Nat.reduceEqDiff, Nat.reduceAdd, Nat.reduceLeDiff, Nat.reduceLT, Nat.reduceMul, reduceCtorEq, Int.reduceEq, Int.reduceLT, Int.reduceLE, Int.reduceNeg, Int.reduceToNat, Int.reduceMul, Int.reduceAdd, Int.reduceSub] | simp (disch := (first | omega | (simp only [go_sem]; done) | (simp only [lens]; omega))) only [cds])))
  refine new_ac 1048576 (by decide) fun h3 p F ⟨bn, bs, fs, A, hF⟩ S => ?_
  subst hF
  have B := Betw.new
  generalize Dk.new 1048576 = D at *
  have hG3 : HasPow h3 := S.keep _ _ (fun x => x) hG
  have hE3 : HasErr h3 := ⟨S.keep _ _ (fun x => x) hE.syn, S.keep _ _ (fun x => x) hE.rng⟩
  have hlen := I.len
  have hlenA := IA.len
  have hlenK := K.len
  ((try simp -implicitDefEqProofs only [later, laterE, laterD, laterR]); (repeat (first | simp -implicitDefEqProofs only [go_sem, ↓reduceIte, Nat.reduceEqDiff, Nat.reduceAdd, Nat.reduceLeDiff, Nat.reduceLT, Nat.reduceMul, reduceCtorEq, Int.reduceEq, Int.reduceLT, Int.reduceLE, Int.reduceNeg, Int.reduceToNat, Int.reduceMul, Int.reduceAdd, Int.reduceSub] | simp (disch := (first | omega | (simp only [go_sem]; done) | (simp only [lens]; omega))) only [cds])))
  refine awake_ac hG3 hE3 ?_
  obtain ⟨kv2, keeps2, K2, hrow, hsl⟩ : ∃ kv2 keeps2, IntsAt h kv2 keeps2 ∧ (∀ b, rowOf kv2 = some b → keeps2 ≠ [] → h b ≠ none) ∧ ((20 < keeps.length ∧ slE 1 kv none (some (.int .i64 20)) = some kv2) ∨ (keeps.length ≤ 20 ∧ kv2 = kv)) := by
    by_cases c : 20 < keeps.length
    · rcases K with ⟨K, _⟩ | ⟨b, o, n, cs, ro, rfl, x1, x2, x3⟩
      · subst K; simp at c
      · have hn : n = keeps.length := by have := congrArg List.length x3; simp at this; omega
        refine ⟨.sl b o 1 20, keeps.take 20, .inr ⟨b, o, 20, cs, ro, rfl, x1, (by omega), ?_⟩, fun b' e _ => ?_, .inl ⟨c, ?_⟩⟩
        · rw [List.map_take, ← x3, List.take_take]; congr 1; omega
        · simp only [rowOf] at e; cases e; rw [x1]; simp
        · have h1 : 20 ≤ n := by omega
          have h2 : (20 : Int) ≤ n := by omega
          rw [sl_sl, bnd_nh (by omega)]; rfl
    · exact ⟨kv, keeps, K, fun b e hne => K.lies hne e, .inr ⟨by omega, rfl⟩⟩
  rcases hsl with ⟨c, e⟩ | ⟨c, e⟩
  case' inl => ((try simp -implicitDefEqProofs only [later, laterE, laterD, laterR]); (repeat (first | simp -implicitDefEqProofs only [go_sem, ↓reduceIte, Nat.reduceEqDiff, Nat.reduceAdd, Nat.reduceLeDiff, Nat.reduceLT, Nat.reduceMul, reduceCtorEq, Int.reduceEq, Int.reduceLT, Int.reduceLE, Int.reduceNeg, Int.reduceToNat, Int.reduceMul, Int.reduceAdd, Int.reduceSub, hlenK, e] | simp (disch := (first | omega | (simp only [go_sem]; done) | (simp only [lens]; omega))) only [cds, hlenK, e])))
  case' inr =>
    subst e
    ((try simp -implicitDefEqProofs only [later, laterE, laterD, laterR]); (repeat (first | simp -implicitDefEqProofs only [go_sem, ↓reduceIte, Nat.reduceEqDiff, Nat.reduceAdd, Nat.reduceLeDiff, Nat.reduceLT, Nat.reduceMul, reduceCtorEq, Int.reduceEq, Int.reduceLT, Int.reduceLE, Int.reduceNeg, Int.reduceToNat, Int.reduceMul, Int.reduceAdd, Int.reduceSub, hlenK] | simp (disch := (first | omega | (simp only [go_sem]; done) | (simp only [lens]; omega))) only [cds, hlenK])))
  all_goals
    refine E.loopX AC.mono (fun (i : Nat) a' h' => ∃ bn bs fs D o, i ≤ ts.length ∧ i ≤ 12 ∧ Betw D o ∧ DiskAt h' p bn bs fs D ∧ Step (fun _ => False) (own p bn bs fs) h h' ∧ a'.d = [] ∧ a'.t 0 = v ∧ a'.t 1 = av ∧ a'.t 2 = kv2 ∧ a'.t 3 = .bool names ∧ a'.t 9 = .ptr p 0 ∧ a'.t 10 = .str (keptV o) ∧ a'.t 11 = .bool o.isSome ∧ a'.t 12 = .int .i64 i) (fun i => 12 - i) 0 ?_ ?_
    · refine ⟨bn, bs, fs, _, none, Nat.zero_le _, Nat.zero_le _, B, A, S, ?_⟩
      ((try simp -implicitDefEqProofs only [later, laterE, laterD, laterR]); (repeat (first | simp -implicitDefEqProofs only [go_sem, ↓reduceIte, Nat.reduceEqDiff, Nat.reduceAdd, Nat.reduceLeDiff, Nat.reduceLT, Nat.reduceMul, reduceCtorEq, Int.reduceEq, Int.reduceLT, Int.reduceLE, Int.reduceNeg, Int.reduceToNat, Int.reduceMul, Int.reduceAdd, Int.reduceSub] | simp (disch := (first | omega | (simp only [go_sem]; done) | (simp only [lens]; omega))) only [cds])))
      exact ⟨rfl, rfl⟩
    · rintro i ⟨t, d⟩ h' ⟨bn, bs, fs, D, o, hil, hi12, B, A, S, hd, t0, t1, t2, t3, t9, t10, t11, t12⟩
      simp only at hd t0 t1 t2 t3 t9 t10 t11 t12; subst hd
      by_cases ca : (i : Int) < ts.length
      · by_cases cb : (i : Int) < 12
        · obtain ⟨x, hx⟩ : ∃ x, ts[i]? = some x := ⟨ts[i]'(by omega), List.getElem?_eq_getElem (by omega)⟩
          obtain ⟨rb, off, _, x2, cs, rr, x3, x4⟩ := I.at hx
          have x5 := S.keep _ _ (fun x => x) x3
          ((try simp -implicitDefEqProofs only [later, laterE, laterD, laterR]); (repeat (first | simp -implicitDefEqProofs only [go_sem, ↓reduceIte, Nat.reduceEqDiff, Nat.reduceAdd, Nat.reduceLeDiff, Nat.reduceLT, Nat.reduceMul, reduceCtorEq, Int.reduceEq, Int.reduceLT, Int.reduceLE, Int.reduceNeg, Int.reduceToNat, Int.reduceMul, Int.reduceAdd, Int.reduceSub, t0, t1, t2, t3, t9, t10, t11, t12, hlen, hlenA, x2, x4, x5] | simp (disch := (first | omega | (simp only [go_sem]; done) | (simp only [lens]; omega))) only [cds, t0, t1, t2, t3, t9, t10, t11, t12, hlen, hlenA, x2, x4, x5])))
          refine cut_ac x 300 ?_
          have hxl : (x.take 300).length ≤ 300 := List.length_take_le ..
          generalize x.take 300 = x at *
          by_cases cn : (i : Int) < ns.length
          · obtain ⟨n, hn⟩ : ∃ n, ns[i]? = some n := ⟨ns[i]'(by omega), List.getElem?_eq_getElem (by omega)⟩
            have hnb := ha n (List.mem_of_getElem? hn)
            obtain ⟨rb2, off2, _, y2, cs2, rr2, y3, y4⟩ := IA.at hn
            have y5 := S.keep _ _ (fun x => x) y3
            ((try simp -implicitDefEqProofs only [later, laterE, laterD, laterR]); (repeat (first | simp -implicitDefEqProofs only [go_sem, ↓reduceIte, Nat.reduceEqDiff, Nat.reduceAdd, Nat.reduceLeDiff, Nat.reduceLT, Nat.reduceMul, reduceCtorEq, Int.reduceEq, Int.reduceLT, Int.reduceLE, Int.reduceNeg, Int.reduceToNat, Int.reduceMul, Int.reduceAdd, Int.reduceSub, t0, t1, t2, t3, t9, t10, t11, t12, hlen, hlenA, y2, y4, y5] | simp (disch := (first | omega | (simp only [go_sem]; done) | (simp only [lens]; omega))) only [cds, t0, t1, t2, t3, t9, t10, t11, t12, hlen, hlenA, y2, y4, y5])))
            refine arm_ac A n hnb fun h1 A1 S1 => ?_
            have B1 := B.arm n
            obtain ⟨D1, hD1⟩ : ∃ D1, D1 = D.arm n := ⟨_, rfl⟩
            obtain ⟨bn1, hb1⟩ : ∃ b, b = bn := ⟨_, rfl⟩
            rw [← hD1] at A1 B1
            rw [← hb1] at A1 S1
            replace S1 := S.trans (by rw [hb1] at S1; exact S1)
            rw [← hb1] at S1
            ((try simp -implicitDefEqProofs only [later, laterE, laterD, laterR]); (repeat (first | simp -implicitDefEqProofs only [go_sem, ↓reduceIte, Nat.reduceEqDiff, Nat.reduceAdd, Nat.reduceLeDiff, Nat.reduceLT, Nat.reduceMul, reduceCtorEq, Int.reduceEq, Int.reduceLT, Int.reduceLE, Int.reduceNeg, Int.reduceToNat, Int.reduceMul, Int.reduceAdd, Int.reduceSub, t0, t1, t2, t3, t9, t10, t11, t12, hlen, hlenA] | simp (disch := (first | omega | (simp only [go_sem]; done) | (simp only [lens]; omega))) only [cds, t0, t1, t2, t3, t9, t10, t11, t12, hlen, hlenA])))
            have hG1 : HasPow h1 := S1.keep _ _ (fun x => x) hG
            refine save_ac A1 x (by omega) hG1 (by have := B1.len; omega) fun h2 bs2 fs2 A2 S2 => ?_
            have Sv := save_live B1.live B1.now (by rw [B1.safe]; exact B1.now) (t := x) (by omega)
            generalize D1.save x = r at *
            obtain ⟨R, e⟩ := r
            simp only at A2
            have S12 := S1.trans S2
            ((try simp -implicitDefEqProofs only [later, laterE, laterD, laterR]); (repeat (first | simp -implicitDefEqProofs only [go_sem, ↓reduceIte, Nat.reduceEqDiff, Nat.reduceAdd, Nat.reduceLeDiff, Nat.reduceLT, Nat.reduceMul, reduceCtorEq, Int.reduceEq, Int.reduceLT, Int.reduceLE, Int.reduceNeg, Int.reduceToNat, Int.reduceMul, Int.reduceAdd, Int.reduceSub, t0, t1, t2, t3, t9, t10, t11, t12] | simp (disch := (first | omega | (simp only [go_sem]; done) | (simp only [lens]; omega))) only [cds, t0, t1, t2, t3, t9, t10, t11, t12])))
            refine dead_ac A2 ?_
            rcases Sv with ⟨s1, s2, s3, s4⟩ | ⟨s1, s2, s3, s4, s5⟩
            · simp only at s1 s2 s3 s4
              subst s1
              rw [s2.dead]
              ((try simp -implicitDefEqProofs only [later, laterE, laterD, laterR]); (repeat (first | simp -implicitDefEqProofs only [go_sem, ↓reduceIte, Nat.reduceEqDiff, Nat.reduceAdd, Nat.reduceLeDiff, Nat.reduceLT, Nat.reduceMul, reduceCtorEq, Int.reduceEq, Int.reduceLT, Int.reduceLE, Int.reduceNeg, Int.reduceToNat, Int.reduceMul, Int.reduceAdd, Int.reduceSub, t0, t1, t2, t3, t9, t10, t11, t12] | simp (disch := (first | omega | (simp only [go_sem]; done) | (simp only [lens]; omega))) only [cds, t0, t1, t2, t3, t9, t10, t11, t12])))
              refine arm_ac A2 (-1) (by decide) fun h3 A3 S3 => ?_
              have B3 := (Betw.mk s2 s3 s4).arm (-1)
              have S13 := S12.trans S3
              ((try simp -implicitDefEqProofs only [later, laterE, laterD, laterR]); (repeat (first | simp -implicitDefEqProofs only [go_sem, ↓reduceIte, Nat.reduceEqDiff, Nat.reduceAdd, Nat.reduceLeDiff, Nat.reduceLT, Nat.reduceMul, reduceCtorEq, Int.reduceEq, Int.reduceLT, Int.reduceLE, Int.reduceNeg, Int.reduceToNat, Int.reduceMul, Int.reduceAdd, Int.reduceSub, t0, t1, t2, t3, t9, t10, t11, t12] | simp (disch := (first | omega | (simp only [go_sem]; done) | (simp only [lens]; omega))) only [cds, t0, t1, t2, t3, t9, t10, t11, t12])))
              refine load_ac A3 (S13.keep _ _ (fun x => x) hG) ⟨S13.keep _ _ (fun x => x) hE.syn, S13.keep _ _ (fun x => x) hE.rng⟩ ?_
              rw [load_live B3.live B3.now]
              ((try simp -implicitDefEqProofs only [later, laterE, laterD, laterR]); (repeat (first | simp -implicitDefEqProofs only [go_sem, ↓reduceIte, Nat.reduceEqDiff, Nat.reduceAdd, Nat.reduceLeDiff, Nat.reduceLT, Nat.reduceMul, reduceCtorEq, Int.reduceEq, Int.reduceLT, Int.reduceLE, Int.reduceNeg, Int.reduceToNat, Int.reduceMul, Int.reduceAdd, Int.reduceSub, t0, t1, t2, t3, t9, t10, t11, t12] | simp (disch := (first | omega | (simp only [go_sem]; done) | (simp only [lens]; omega))) only [cds, t0, t1, t2, t3, t9, t10, t11, t12])))
              refine ⟨i + 1, ?_⟩
              ((try simp -implicitDefEqProofs only [later, laterE, laterD, laterR]); (repeat (first | simp -implicitDefEqProofs only [go_sem, ↓reduceIte, Nat.reduceEqDiff, Nat.reduceAdd, Nat.reduceLeDiff, Nat.reduceLT, Nat.reduceMul, reduceCtorEq, Int.reduceEq, Int.reduceLT, Int.reduceLE, Int.reduceNeg, Int.reduceToNat, Int.reduceMul, Int.reduceAdd, Int.reduceSub, t0, t1, t2, t3, t9, t10, t11, t12] | simp (disch := (first | omega | (simp only [go_sem]; done) | (simp only [lens]; omega))) only [cds, t0, t1, t2, t3, t9, t10, t11, t12])))
              refine ⟨by omega, bn1, bs2, fs2, _, some x, by omega, by omega, B3, A3, S13, ?_⟩
              ((repeat' apply And.intro) <;> (first | omega | rfl | assumption | (congr 1 <;> omega) | skip))
            · simp only at s1 s2 s3 s4 s5
              subst s1
              rw [s3]
              ((try simp -implicitDefEqProofs only [later, laterE, laterD, laterR]); (repeat (first | simp -implicitDefEqProofs only [go_sem, ↓reduceIte, Nat.reduceEqDiff, Nat.reduceAdd, Nat.reduceLeDiff, Nat.reduceLT, Nat.reduceMul, reduceCtorEq, Int.reduceEq, Int.reduceLT, Int.reduceLE, Int.reduceNeg, Int.reduceToNat, Int.reduceMul, Int.reduceAdd, Int.reduceSub, t0, t1, t2, t3, t9, t10, t11, t12] | simp (disch := (first | omega | (simp only [go_sem]; done) | (simp only [lens]; omega))) only [cds, t0, t1, t2, t3, t9, t10, t11, t12])))
              refine arm_ac A2 (-1) (by decide) fun h3 A3 S3 => ?_
              rw [show R.arm (-1) = R by unfold Dk.arm; rw [if_pos s3]] at A3
              have S13 := S12.trans S3
              have K3 : IntsAt h3 kv2 keeps2 := K2.keep fun b o _ hb => S13.keep _ _ (fun x => x) hb
              have hnl : R.now.length ≤ 2 := by rcases s4 with s4 | s4 <;> exact s4.cases.1
              have hsl : R.safe.length ≤ 2 := s5.cases.1
              obtain ⟨o2, ho2, B4⟩ : ∃ o2, (o2 = o ∨ o2 = some x) ∧ Betw (R.crash keeps2 names) o2 := by
                rcases s4 with s4 | s4
                · obtain ⟨q1, q2, q3⟩ := crash_live s2 s4 s5 keeps2 names
                  exact ⟨o, .inl rfl, q1, q2, by cases names <;> exact q3⟩
                · obtain ⟨q1, q2, q3⟩ := crash_live s2 s4 s5 keeps2 names
                  exact ⟨if names then some x else o, by cases names <;> simp, q1, q2, q3⟩
              ((try simp -implicitDefEqProofs only [later, laterE, laterD, laterR]); (repeat (first | simp -implicitDefEqProofs only [go_sem, ↓reduceIte, Nat.reduceEqDiff, Nat.reduceAdd, Nat.reduceLeDiff, Nat.reduceLT, Nat.reduceMul, reduceCtorEq, Int.reduceEq, Int.reduceLT, Int.reduceLE, Int.reduceNeg, Int.reduceToNat, Int.reduceMul, Int.reduceAdd, Int.reduceSub, t0, t1, t2, t3, t9, t10, t11, t12] | simp (disch := (first | omega | (simp only [go_sem]; done) | (simp only [lens]; omega))) only [cds, t0, t1, t2, t3, t9, t10, t11, t12])))
              refine crash_ac A3 kv2 keeps2 names K3 (fun b e1 e2 ow => ?_) (by omega) (by omega) fun h4 bn4 bs4 A4 S4 => ?_
              · rcases S13.new b ow with e3 | e3
                · exact e3
                · exact hrow b e1 e2 e3
              have S14 := S13.trans S4
              ((try simp -implicitDefEqProofs only [later, laterE, laterD, laterR]); (repeat (first | simp -implicitDefEqProofs only [go_sem, ↓reduceIte, Nat.reduceEqDiff, Nat.reduceAdd, Nat.reduceLeDiff, Nat.reduceLT, Nat.reduceMul, reduceCtorEq, Int.reduceEq, Int.reduceLT, Int.reduceLE, Int.reduceNeg, Int.reduceToNat, Int.reduceMul, Int.reduceAdd, Int.reduceSub, t0, t1, t2, t3, t9, t10, t11, t12] | simp (disch := (first | omega | (simp only [go_sem]; done) | (simp only [lens]; omega))) only [cds, t0, t1, t2, t3, t9, t10, t11, t12])))
              refine load_ac A4 (S14.keep _ _ (fun x => x) hG) ⟨S14.keep _ _ (fun x => x) hE.syn, S14.keep _ _ (fun x => x) hE.rng⟩ ?_
              rw [load_live B4.live B4.now]
              rcases o2 with _ | y
              · have ho : o = none := by rcases ho2 with h | h <;> simp_all
                subst ho
                ((try simp -implicitDefEqProofs only [later, laterE, laterD, laterR]); (repeat (first | simp -implicitDefEqProofs only [go_sem, ↓reduceIte, Nat.reduceEqDiff, Nat.reduceAdd, Nat.reduceLeDiff, Nat.reduceLT, Nat.reduceMul, reduceCtorEq, Int.reduceEq, Int.reduceLT, Int.reduceLE, Int.reduceNeg, Int.reduceToNat, Int.reduceMul, Int.reduceAdd, Int.reduceSub, t0, t1, t2, t3, t9, t10, t11, t12, Option.isSome_none] | simp (disch := (first | omega | (simp only [go_sem]; done) | (simp only [lens]; omega))) only [cds, t0, t1, t2, t3, t9, t10, t11, t12, Option.isSome_none])))
                refine ⟨i + 1, ?_⟩
                ((try simp -implicitDefEqProofs only [later, laterE, laterD, laterR]); (repeat (first | simp -implicitDefEqProofs only [go_sem, ↓reduceIte, Nat.reduceEqDiff, Nat.reduceAdd, Nat.reduceLeDiff, Nat.reduceLT, Nat.reduceMul, reduceCtorEq, Int.reduceEq, Int.reduceLT, Int.reduceLE, Int.reduceNeg, Int.reduceToNat, Int.reduceMul, Int.reduceAdd, Int.reduceSub, t0, t1, t2, t3, t9, t10, t11, t12] | simp (disch := (first | omega | (simp only [go_sem]; done) | (simp only [lens]; omega))) only [cds, t0, t1, t2, t3, t9, t10, t11, t12])))
                refine ⟨by omega, bn4, bs4, fs2, _, none, by omega, by omega, B4, A4, S14, ?_⟩
                ((repeat' apply And.intro) <;> (first | omega | rfl | assumption | (congr 1 <;> omega) | skip))
              · by_cases cy : y = x
                · subst cy
                  cases o
                  all_goals
                    ((try simp -implicitDefEqProofs only [later, laterE, laterD, laterR]); (repeat (first | simp -implicitDefEqProofs only [go_sem, ↓reduceIte, Nat.reduceEqDiff, Nat.reduceAdd, Nat.reduceLeDiff, Nat.reduceLT, Nat.reduceMul, reduceCtorEq, Int.reduceEq, Int.reduceLT, Int.reduceLE, Int.reduceNeg, Int.reduceToNat, Int.reduceMul, Int.reduceAdd, Int.reduceSub, t0, t1, t2, t3, t9, t10, t11, t12, Option.isSome_none, Option.isSome_some] | simp (disch := (first | omega | (simp only [go_sem]; done) | (simp only [lens]; omega))) only [cds, t0, t1, t2, t3, t9, t10, t11, t12, Option.isSome_none, Option.isSome_some])))
                    refine ⟨i + 1, ?_⟩
                    ((try simp -implicitDefEqProofs only [later, laterE, laterD, laterR]); (repeat (first | simp -implicitDefEqProofs only [go_sem, ↓reduceIte, Nat.reduceEqDiff, Nat.reduceAdd, Nat.reduceLeDiff, Nat.reduceLT, Nat.reduceMul, reduceCtorEq, Int.reduceEq, Int.reduceLT, Int.reduceLE, Int.reduceNeg, Int.reduceToNat, Int.reduceMul, Int.reduceAdd, Int.reduceSub, t0, t1, t2, t3, t9, t10, t11, t12] | simp (disch := (first | omega | (simp only [go_sem]; done) | (simp only [lens]; omega))) only [cds, t0, t1, t2, t3, t9, t10, t11, t12])))
                    refine ⟨by omega, bn4, bs4, fs2, _, some y, by omega, by omega, B4, A4, S14, ?_⟩
                    ((repeat' apply And.intro) <;> (first | omega | rfl | assumption | (congr 1 <;> omega) | skip))
                · have ho : o = some y := by rcases ho2 with h | h <;> simp_all
                  subst ho
                  have hk : keptV (some y) = y := rfl
                  ((try simp -implicitDefEqProofs only [later, laterE, laterD, laterR]); (repeat (first | simp -implicitDefEqProofs only [go_sem, ↓reduceIte, Nat.reduceEqDiff, Nat.reduceAdd, Nat.reduceLeDiff, Nat.reduceLT, Nat.reduceMul, reduceCtorEq, Int.reduceEq, Int.reduceLT, Int.reduceLE, Int.reduceNeg, Int.reduceToNat, Int.reduceMul, Int.reduceAdd, Int.reduceSub, t0, t1, t2, t3, t9, t10, t11, t12, Option.isSome_some, hk, cy] | simp (disch := (first | omega | (simp only [go_sem]; done) | (simp only [lens]; omega))) only [cds, t0, t1, t2, t3, t9, t10, t11, t12, Option.isSome_some, hk, cy])))
                  refine ⟨i + 1, ?_⟩
                  ((try simp -implicitDefEqProofs only [later, laterE, laterD, laterR]); (repeat (first | simp -implicitDefEqProofs only [go_sem, ↓reduceIte, Nat.reduceEqDiff, Nat.reduceAdd, Nat.reduceLeDiff, Nat.reduceLT, Nat.reduceMul, reduceCtorEq, Int.reduceEq, Int.reduceLT, Int.reduceLE, Int.reduceNeg, Int.reduceToNat, Int.reduceMul, Int.reduceAdd, Int.reduceSub, t0, t1, t2, t3, t9, t10, t11, t12] | simp (disch := (first | omega | (simp only [go_sem]; done) | (simp only [lens]; omega))) only [cds, t0, t1, t2, t3, t9, t10, t11, t12])))
                  refine ⟨by omega, bn4, bs4, fs2, _, some y, by omega, by omega, B4, A4, S14, ?_⟩
                  ((repeat' apply And.intro) <;> (first | omega | rfl | assumption | (congr 1 <;> omega) | skip))
          · obtain ⟨D1, hD1⟩ : ∃ D1, D1 = D := ⟨_, rfl⟩
            obtain ⟨bn1, hb1⟩ : ∃ b, b = bn := ⟨_, rfl⟩
            obtain ⟨h1, hh1⟩ : ∃ b, b = h' := ⟨_, rfl⟩
            subst hD1; subst hb1; subst hh1
            have A1 := A
            have S1 := S
            have B1 := B
            ((try simp -implicitDefEqProofs only [later, laterE, laterD, laterR]); (repeat (first | simp -implicitDefEqProofs only [go_sem, ↓reduceIte, Nat.reduceEqDiff, Nat.reduceAdd, Nat.reduceLeDiff, Nat.reduceLT, Nat.reduceMul, reduceCtorEq, Int.reduceEq, Int.reduceLT, Int.reduceLE, Int.reduceNeg, Int.reduceToNat, Int.reduceMul, Int.reduceAdd, Int.reduceSub, t0, t1, t2, t3, t9, t10, t11, t12, hlen, hlenA] | simp (disch := (first | omega | (simp only [go_sem]; done) | (simp only [lens]; omega))) only [cds, t0, t1, t2, t3, t9, t10, t11, t12, hlen, hlenA])))
            have hG1 : HasPow h1 := S1.keep _ _ (fun x => x) hG
            refine save_ac A1 x (by omega) hG1 (by have := B1.len; omega) fun h2 bs2 fs2 A2 S2 => ?_
            have Sv := save_live B1.live B1.now (by rw [B1.safe]; exact B1.now) (t := x) (by omega)
            generalize D1.save x = r at *
            obtain ⟨R, e⟩ := r
            simp only at A2
            have S12 := S1.trans S2
            ((try simp -implicitDefEqProofs only [later, laterE, laterD, laterR]); (repeat (first | simp -implicitDefEqProofs only [go_sem, ↓reduceIte, Nat.reduceEqDiff, Nat.reduceAdd, Nat.reduceLeDiff, Nat.reduceLT, Nat.reduceMul, reduceCtorEq, Int.reduceEq, Int.reduceLT, Int.reduceLE, Int.reduceNeg, Int.reduceToNat, Int.reduceMul, Int.reduceAdd, Int.reduceSub, t0, t1, t2, t3, t9, t10, t11, t12] | simp (disch := (first | omega | (simp only [go_sem]; done) | (simp only [lens]; omega))) only [cds, t0, t1, t2, t3, t9, t10, t11, t12])))
            refine dead_ac A2 ?_
            rcases Sv with ⟨s1, s2, s3, s4⟩ | ⟨s1, s2, s3, s4, s5⟩
            · simp only at s1 s2 s3 s4
              subst s1
              rw [s2.dead]
              ((try simp -implicitDefEqProofs only [later, laterE, laterD, laterR]); (repeat (first | simp -implicitDefEqProofs only [go_sem, ↓reduceIte, Nat.reduceEqDiff, Nat.reduceAdd, Nat.reduceLeDiff, Nat.reduceLT, Nat.reduceMul, reduceCtorEq, Int.reduceEq, Int.reduceLT, Int.reduceLE, Int.reduceNeg, Int.reduceToNat, Int.reduceMul, Int.reduceAdd, Int.reduceSub, t0, t1, t2, t3, t9, t10, t11, t12] | simp (disch := (first | omega | (simp only [go_sem]; done) | (simp only [lens]; omega))) only [cds, t0, t1, t2, t3, t9, t10, t11, t12])))
              refine arm_ac A2 (-1) (by decide) fun h3 A3 S3 => ?_
              have B3 := (Betw.mk s2 s3 s4).arm (-1)
              have S13 := S12.trans S3
              ((try simp -implicitDefEqProofs only [later, laterE, laterD, laterR]); (repeat (first | simp -implicitDefEqProofs only [go_sem, ↓reduceIte, Nat.reduceEqDiff, Nat.reduceAdd, Nat.reduceLeDiff, Nat.reduceLT, Nat.reduceMul, reduceCtorEq, Int.reduceEq, Int.reduceLT, Int.reduceLE, Int.reduceNeg, Int.reduceToNat, Int.reduceMul, Int.reduceAdd, Int.reduceSub, t0, t1, t2, t3, t9, t10, t11, t12] | simp (disch := (first | omega | (simp only [go_sem]; done) | (simp only [lens]; omega))) only [cds, t0, t1, t2, t3, t9, t10, t11, t12])))
              refine load_ac A3 (S13.keep _ _ (fun x => x) hG) ⟨S13.keep _ _ (fun x => x) hE.syn, S13.keep _ _ (fun x => x) hE.rng⟩ ?_
              rw [load_live B3.live B3.now]
              ((try simp -implicitDefEqProofs only [later, laterE, laterD, laterR]); (repeat (first | simp -implicitDefEqProofs only [go_sem, ↓reduceIte, Nat.reduceEqDiff, Nat.reduceAdd, Nat.reduceLeDiff, Nat.reduceLT, Nat.reduceMul, reduceCtorEq, Int.reduceEq, Int.reduceLT, Int.reduceLE, Int.reduceNeg, Int.reduceToNat, Int.reduceMul, Int.reduceAdd, Int.reduceSub, t0, t1, t2, t3, t9, t10, t11, t12] | simp (disch := (first | omega | (simp only [go_sem]; done) | (simp only [lens]; omega))) only [cds, t0, t1, t2, t3, t9, t10, t11, t12])))
              refine ⟨i + 1, ?_⟩
              ((try simp -implicitDefEqProofs only [later, laterE, laterD, laterR]); (repeat (first | simp -implicitDefEqProofs only [go_sem, ↓reduceIte, Nat.reduceEqDiff, Nat.reduceAdd, Nat.reduceLeDiff, Nat.reduceLT, Nat.reduceMul, reduceCtorEq, Int.reduceEq, Int.reduceLT, Int.reduceLE, Int.reduceNeg, Int.reduceToNat, Int.reduceMul, Int.reduceAdd, Int.reduceSub, t0, t1, t2, t3, t9, t10, t11, t12] | simp (disch := (first | omega | (simp only [go_sem]; done) | (simp only [lens]; omega))) only [cds, t0, t1, t2, t3, t9, t10, t11, t12])))
              refine ⟨by omega, bn1, bs2, fs2, _, some x, by omega, by omega, B3, A3, S13, ?_⟩
              ((repeat' apply And.intro) <;> (first | omega | rfl | assumption | (congr 1 <;> omega) | skip))
            · simp only at s1 s2 s3 s4 s5
              subst s1
              rw [s3]
              ((try simp -implicitDefEqProofs only [later, laterE, laterD, laterR]); (repeat (first | simp -implicitDefEqProofs only [go_sem, ↓reduceIte, Nat.reduceEqDiff, Nat.reduceAdd, Nat.reduceLeDiff, Nat.reduceLT, Nat.reduceMul, reduceCtorEq, Int.reduceEq, Int.reduceLT, Int.reduceLE, Int.reduceNeg, Int.reduceToNat, Int.reduceMul, Int.reduceAdd, Int.reduceSub, t0, t1, t2, t3, t9, t10, t11, t12] | simp (disch := (first | omega | (simp only [go_sem]; done) | (simp only [lens]; omega))) only [cds, t0, t1, t2, t3, t9, t10, t11, t12])))
              refine arm_ac A2 (-1) (by decide) fun h3 A3 S3 => ?_
              rw [show R.arm (-1) = R by unfold Dk.arm; rw [if_pos s3]] at A3
              have S13 := S12.trans S3
              have K3 : IntsAt h3 kv2 keeps2 := K2.keep fun b o _ hb => S13.keep _ _ (fun x => x) hb
              have hnl : R.now.length ≤ 2 := by rcases s4 with s4 | s4 <;> exact s4.cases.1
              have hsl : R.safe.length ≤ 2 := s5.cases.1
              obtain ⟨o2, ho2, B4⟩ : ∃ o2, (o2 = o ∨ o2 = some x) ∧ Betw (R.crash keeps2 names) o2 := by
                rcases s4 with s4 | s4
                · obtain ⟨q1, q2, q3⟩ := crash_live s2 s4 s5 keeps2 names
                  exact ⟨o, .inl rfl, q1, q2, by cases names <;> exact q3⟩
                · obtain ⟨q1, q2, q3⟩ := crash_live s2 s4 s5 keeps2 names
                  exact ⟨if names then some x else o, by cases names <;> simp, q1, q2, q3⟩
              ((try simp -implicitDefEqProofs only [later, laterE, laterD, laterR]); (repeat (first | simp -implicitDefEqProofs only [go_sem, ↓reduceIte, Nat.reduceEqDiff, Nat.reduceAdd, Nat.reduceLeDiff, Nat.reduceLT, Nat.reduceMul, reduceCtorEq, Int.reduceEq, Int.reduceLT, Int.reduceLE, Int.reduceNeg, Int.reduceToNat, Int.reduceMul, Int.reduceAdd, Int.reduceSub, t0, t1, t2, t3, t9, t10, t11, t12] | simp (disch := (first | omega | (simp only [go_sem]; done) | (simp only [lens]; omega))) only [cds, t0, t1, t2, t3, t9, t10, t11, t12])))
              refine crash_ac A3 kv2 keeps2 names K3 (fun b e1 e2 ow => ?_) (by omega) (by omega) fun h4 bn4 bs4 A4 S4 => ?_
              · rcases S13.new b ow with e3 | e3
                · exact e3
                · exact hrow b e1 e2 e3
              have S14 := S13.trans S4
              ((try simp -implicitDefEqProofs only [later, laterE, laterD, laterR]); (repeat (first | simp -implicitDefEqProofs only [go_sem, ↓reduceIte, Nat.reduceEqDiff, Nat.reduceAdd, Nat.reduceLeDiff, Nat.reduceLT, Nat.reduceMul, reduceCtorEq, Int.reduceEq, Int.reduceLT, Int.reduceLE, Int.reduceNeg, Int.reduceToNat, Int.reduceMul, Int.reduceAdd, Int.reduceSub, t0, t1, t2, t3, t9, t10, t11, t12] | simp (disch := (first | omega | (simp only [go_sem]; done) | (simp only [lens]; omega))) only [cds, t0, t1, t2, t3, t9, t10, t11, t12])))
              refine load_ac A4 (S14.keep _ _ (fun x => x) hG) ⟨S14.keep _ _ (fun x => x) hE.syn, S14.keep _ _ (fun x => x) hE.rng⟩ ?_
              rw [load_live B4.live B4.now]
              rcases o2 with _ | y
              · have ho : o = none := by rcases ho2 with h | h <;> simp_all
                subst ho
                ((try simp -implicitDefEqProofs only [later, laterE, laterD, laterR]); (repeat (first | simp -implicitDefEqProofs only [go_sem, ↓reduceIte, Nat.reduceEqDiff, Nat.reduceAdd, Nat.reduceLeDiff, Nat.reduceLT, Nat.reduceMul, reduceCtorEq, Int.reduceEq, Int.reduceLT, Int.reduceLE, Int.reduceNeg, Int.reduceToNat, Int.reduceMul, Int.reduceAdd, Int.reduceSub, t0, t1, t2, t3, t9, t10, t11, t12, Option.isSome_none] | simp (disch := (first | omega | (simp only [go_sem]; done) | (simp only [lens]; omega))) only [cds, t0, t1, t2, t3, t9, t10, t11, t12, Option.isSome_none])))
                refine ⟨i + 1, ?_⟩
                ((try simp -implicitDefEqProofs only [later, laterE, laterD, laterR]); (repeat (first | simp -implicitDefEqProofs only [go_sem, ↓reduceIte, Nat.reduceEqDiff, Nat.reduceAdd, Nat.reduceLeDiff, Nat.reduceLT, Nat.reduceMul, reduceCtorEq, Int.reduceEq, Int.reduceLT, Int.reduceLE, Int.reduceNeg, Int.reduceToNat, Int.reduceMul, Int.reduceAdd, Int.reduceSub, t0, t1, t2, t3, t9, t10, t11, t12] | simp (disch := (first | omega | (simp only [go_sem]; done) | (simp only [lens]; omega))) only [cds, t0, t1, t2, t3, t9, t10, t11, t12])))
                refine ⟨by omega, bn4, bs4, fs2, _, none, by omega, by omega, B4, A4, S14, ?_⟩
                ((repeat' apply And.intro) <;> (first | omega | rfl | assumption | (congr 1 <;> omega) | skip))
              · by_cases cy : y = x
                · subst cy
                  cases o
                  all_goals
                    ((try simp -implicitDefEqProofs only [later, laterE, laterD, laterR]); (repeat (first | simp -implicitDefEqProofs only [go_sem, ↓reduceIte, Nat.reduceEqDiff, Nat.reduceAdd, Nat.reduceLeDiff, Nat.reduceLT, Nat.reduceMul, reduceCtorEq, Int.reduceEq, Int.reduceLT, Int.reduceLE, Int.reduceNeg, Int.reduceToNat, Int.reduceMul, Int.reduceAdd, Int.reduceSub, t0, t1, t2, t3, t9, t10, t11, t12, Option.isSome_none, Option.isSome_some] | simp (disch := (first | omega | (simp only [go_sem]; done) | (simp only [lens]; omega))) only [cds, t0, t1, t2, t3, t9, t10, t11, t12, Option.isSome_none, Option.isSome_some])))
                    refine ⟨i + 1, ?_⟩
                    ((try simp -implicitDefEqProofs only [later, laterE, laterD, laterR]); (repeat (first | simp -implicitDefEqProofs only [go_sem, ↓reduceIte, Nat.reduceEqDiff, Nat.reduceAdd, Nat.reduceLeDiff, Nat.reduceLT, Nat.reduceMul, reduceCtorEq, Int.reduceEq, Int.reduceLT, Int.reduceLE, Int.reduceNeg, Int.reduceToNat, Int.reduceMul, Int.reduceAdd, Int.reduceSub, t0, t1, t2, t3, t9, t10, t11, t12] | simp (disch := (first | omega | (simp only [go_sem]; done) | (simp only [lens]; omega))) only [cds, t0, t1, t2, t3, t9, t10, t11, t12])))
                    refine ⟨by omega, bn4, bs4, fs2, _, some y, by omega, by omega, B4, A4, S14, ?_⟩
                    ((repeat' apply And.intro) <;> (first | omega | rfl | assumption | (congr 1 <;> omega) | skip))
                · have ho : o = some y := by rcases ho2 with h | h <;> simp_all
                  subst ho
                  have hk : keptV (some y) = y := rfl
                  ((try simp -implicitDefEqProofs only [later, laterE, laterD, laterR]); (repeat (first | simp -implicitDefEqProofs only [go_sem, ↓reduceIte, Nat.reduceEqDiff, Nat.reduceAdd, Nat.reduceLeDiff, Nat.reduceLT, Nat.reduceMul, reduceCtorEq, Int.reduceEq, Int.reduceLT, Int.reduceLE, Int.reduceNeg, Int.reduceToNat, Int.reduceMul, Int.reduceAdd, Int.reduceSub, t0, t1, t2, t3, t9, t10, t11, t12, Option.isSome_some, hk, cy] | simp (disch := (first | omega | (simp only [go_sem]; done) | (simp only [lens]; omega))) only [cds, t0, t1, t2, t3, t9, t10, t11, t12, Option.isSome_some, hk, cy])))
                  refine ⟨i + 1, ?_⟩
                  ((try simp -implicitDefEqProofs only [later, laterE, laterD, laterR]); (repeat (first | simp -implicitDefEqProofs only [go_sem, ↓reduceIte, Nat.reduceEqDiff, Nat.reduceAdd, Nat.reduceLeDiff, Nat.reduceLT, Nat.reduceMul, reduceCtorEq, Int.reduceEq, Int.reduceLT, Int.reduceLE, Int.reduceNeg, Int.reduceToNat, Int.reduceMul, Int.reduceAdd, Int.reduceSub, t0, t1, t2, t3, t9, t10, t11, t12] | simp (disch := (first | omega | (simp only [go_sem]; done) | (simp only [lens]; omega))) only [cds, t0, t1, t2, t3, t9, t10, t11, t12])))
                  refine ⟨by omega, bn4, bs4, fs2, _, some y, by omega, by omega, B4, A4, S14, ?_⟩
                  ((repeat' apply And.intro) <;> (first | omega | rfl | assumption | (congr 1 <;> omega) | skip))
        · ((try simp -implicitDefEqProofs only [later, laterE, laterD, laterR]); (repeat (first | simp -implicitDefEqProofs only [go_sem, ↓reduceIte, Nat.reduceEqDiff, Nat.reduceAdd, Nat.reduceLeDiff, Nat.reduceLT, Nat.reduceMul, reduceCtorEq, Int.reduceEq, Int.reduceLT, Int.reduceLE, Int.reduceNeg, Int.reduceToNat, Int.reduceMul, Int.reduceAdd, Int.reduceSub, t0, t1, t2, t3, t9, t10, t11, t12, hlen, hlenA] | simp (disch := (first | omega | (simp only [go_sem]; done) | (simp only [lens]; omega))) only [cds, t0, t1, t2, t3, t9, t10, t11, t12, hlen, hlenA])))
          exact ⟨_, Step.sub S, hq⟩
      · ((try simp -implicitDefEqProofs only [later, laterE, laterD, laterR]); (repeat (first | simp -implicitDefEqProofs only [go_sem, ↓reduceIte, Nat.reduceEqDiff, Nat.reduceAdd, Nat.reduceLeDiff, Nat.reduceLT, Nat.reduceMul, reduceCtorEq, Int.reduceEq, Int.reduceLT, Int.reduceLE, Int.reduceNeg, Int.reduceToNat, Int.reduceMul, Int.reduceAdd, Int.reduceSub, t0, t1, t2, t3, t9, t10, t11, t12, hlen, hlenA] | simp (disch := (first | omega | (simp only [go_sem]; done) | (simp only [lens]; omega))) only [cds, t0, t1, t2, t3, t9, t10, t11, t12, hlen, hlenA])))
        exact ⟨_, Step.sub S, hq⟩
end Go.Proofs.YtijipnkdabdioaaGreatDoor
