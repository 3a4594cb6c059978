/- The journal, walked, 7: JournalDrops. -/
import Derived.Test.YtijipnkdabdioabGreatDoorJ8
set_option linter.unusedSimpArgs false
set_option linter.unusedVariables false
namespace Go.Proofs.YtijipnkdabdioabGreatDoor
open Mir SumMath
variable {h : H} {Q : V → H → Prop}
theorem drops_ac (s : Txt) (n : Int) (hn : n < 9223372036854775808) (kv : V) (keeps : List Int) (K : IntsAt h kv keeps) (hG : HasPow h) (hE : HasErr h) (hq : Q (.bool true) h) : AC pg (.fn 3) [.str s, .int .i64 n, kv] h Q := by
  refine AC.fn' (g := g3) rfl (by simp only [List.length_cons, List.length_nil, g3]; decide) ?_; simp only [g3]
  have hlenK := K.len
  ((try simp -implicitDefEqProofs only [later, laterE, laterD, laterR]); (repeat (first | simp -implicitDefEqProofs only [go_sem, ↓reduceIte, Nat.reduceEqDiff, Nat.reduceAdd, Nat.reduceLeDiff, Nat.reduceLT, Nat.reduceMul, reduceCtorEq, Int.reduceEq, Int.reduceLT, Int.reduceLE, Int.reduceNeg, Int.reduceToNat, Int.reduceMul, Int.reduceAdd, Int.reduceSub] | simp (disch := (first | omega | (simp only [go_sem]; done) | (simp only [lens]; omega))) only [cds])))
  refine cut_ac s 200 ?_
  have hs : (s.take 200).length ≤ 200 := List.length_take_le ..
  generalize s.take 200 = s at *
  ((try simp -implicitDefEqProofs only [later, laterE, laterD, laterR]); (repeat (first | simp -implicitDefEqProofs only [go_sem, ↓reduceIte, Nat.reduceEqDiff, Nat.reduceAdd, Nat.reduceLeDiff, Nat.reduceLT, Nat.reduceMul, reduceCtorEq, Int.reduceEq, Int.reduceLT, Int.reduceLE, Int.reduceNeg, Int.reduceToNat, Int.reduceMul, Int.reduceAdd, Int.reduceSub] | simp (disch := (first | omega | (simp only [go_sem]; done) | (simp only [lens]; omega))) only [cds])))
  refine new_ac 1048576 (by decide) fun h1 p F ⟨bn, bs, fs, A, hF⟩ S => ?_
  subst hF
  have fs1 := frame_small (x := s) (by omega)
  obtain ⟨R, e1, J1⟩ := ((Jn.new (q := 1048576) (by decide)).save s (by omega)).2 (by simp [roomOf]; omega)
  have L0 : Live (Dk.new 1048576) := ⟨by rfl, by decide, rfl⟩
  have Sv := save_live L0 (o := none) (t := s) ⟨[], [], rfl, rfl, .inl rfl⟩ ⟨[], [], rfl, rfl, .inl rfl⟩ (by omega)
  rw [e1] at Sv
  obtain ⟨_, q2, q3, q4⟩ : (R, 0).2 = 0 ∧ Live R ∧ R.safe = R.now ∧ Shape R.bodies R.now (some s) := by
    rcases Sv with x | ⟨x, _⟩
    · exact x
    · cases x
  ((try simp -implicitDefEqProofs only [later, laterE, laterD, laterR]); (repeat (first | simp -implicitDefEqProofs only [go_sem, ↓reduceIte, Nat.reduceEqDiff, Nat.reduceAdd, Nat.reduceLeDiff, Nat.reduceLT, Nat.reduceMul, reduceCtorEq, Int.reduceEq, Int.reduceLT, Int.reduceLE, Int.reduceNeg, Int.reduceToNat, Int.reduceMul, Int.reduceAdd, Int.reduceSub] | simp (disch := (first | omega | (simp only [go_sem]; done) | (simp only [lens]; omega))) only [cds])))
  refine save_ac A s (by omega) (S.keep _ _ (fun x => x) hG) (by decide) fun h2 bs2 fs2 A2 S2 => ?_
  rw [e1] at A2 ⊢
  replace S2 := S.trans S2
  by_cases c : 20 < keeps.length
  · ((try simp -implicitDefEqProofs only [later, laterE, laterD, laterR]); (repeat (first | simp -implicitDefEqProofs only [go_sem, ↓reduceIte, Nat.reduceEqDiff, Nat.reduceAdd, Nat.reduceLeDiff, Nat.reduceLT, Nat.reduceMul, reduceCtorEq, Int.reduceEq, Int.reduceLT, Int.reduceLE, Int.reduceNeg, Int.reduceToNat, Int.reduceMul, Int.reduceAdd, Int.reduceSub, hlenK] | simp (disch := (first | omega | (simp only [go_sem]; done) | (simp only [lens]; omega))) only [cds, hlenK])))
    refine awake_ac (S2.keep _ _ (fun x => x) hG) ⟨S2.keep _ _ (fun x => x) hE.syn, S2.keep _ _ (fun x => x) hE.rng⟩ ?_
    ((try simp -implicitDefEqProofs only [later, laterE, laterD, laterR]); (repeat (first | simp -implicitDefEqProofs only [go_sem, ↓reduceIte, Nat.reduceEqDiff, Nat.reduceAdd, Nat.reduceLeDiff, Nat.reduceLT, Nat.reduceMul, reduceCtorEq, Int.reduceEq, Int.reduceLT, Int.reduceLE, Int.reduceNeg, Int.reduceToNat, Int.reduceMul, Int.reduceAdd, Int.reduceSub] | simp (disch := (first | omega | (simp only [go_sem]; done) | (simp only [lens]; omega))) only [cds])))
    exact ⟨_, Step.sub S2, hq⟩
  ((try simp -implicitDefEqProofs only [later, laterE, laterD, laterR]); (repeat (first | simp -implicitDefEqProofs only [go_sem, ↓reduceIte, Nat.reduceEqDiff, Nat.reduceAdd, Nat.reduceLeDiff, Nat.reduceLT, Nat.reduceMul, reduceCtorEq, Int.reduceEq, Int.reduceLT, Int.reduceLE, Int.reduceNeg, Int.reduceToNat, Int.reduceMul, Int.reduceAdd, Int.reduceSub, hlenK] | simp (disch := (first | omega | (simp only [go_sem]; done) | (simp only [lens]; omega))) only [cds, hlenK])))
  refine arm_ac A2 n hn fun h3 A3 S3 => ?_
  replace S3 := S2.trans S3
  have B1 := (Betw.mk q2 q3 q4).arm n
  generalize R.arm n = D1 at *
  ((try simp -implicitDefEqProofs only [later, laterE, laterD, laterR]); (repeat (first | simp -implicitDefEqProofs only [go_sem, ↓reduceIte, Nat.reduceEqDiff, Nat.reduceAdd, Nat.reduceLeDiff, Nat.reduceLT, Nat.reduceMul, reduceCtorEq, Int.reduceEq, Int.reduceLT, Int.reduceLE, Int.reduceNeg, Int.reduceToNat, Int.reduceMul, Int.reduceAdd, Int.reduceSub] | simp (disch := (first | omega | (simp only [go_sem]; done) | (simp only [lens]; omega))) only [cds])))
  refine save_ac A3 (s ++ [120]) (by simp; omega) (S3.keep _ _ (fun x => x) hG) (by have := B1.len; omega) fun h4 bs4 fs4 A4 S4 => ?_
  replace S4 := S3.trans S4
  have Sw := save_live B1.live B1.now (by rw [B1.safe]; exact B1.now) (t := s ++ [120]) (by simp; omega)
  generalize D1.save (s ++ [120]) = r at *
  obtain ⟨D2, e⟩ := r
  simp only at A4
  ((try simp -implicitDefEqProofs only [later, laterE, laterD, laterR]); (repeat (first | simp -implicitDefEqProofs only [go_sem, ↓reduceIte, Nat.reduceEqDiff, Nat.reduceAdd, Nat.reduceLeDiff, Nat.reduceLT, Nat.reduceMul, reduceCtorEq, Int.reduceEq, Int.reduceLT, Int.reduceLE, Int.reduceNeg, Int.reduceToNat, Int.reduceMul, Int.reduceAdd, Int.reduceSub] | simp (disch := (first | omega | (simp only [go_sem]; done) | (simp only [lens]; omega))) only [cds])))
  refine arm_ac A4 (-1) (by decide) fun h5 A5 S5 => ?_
  replace S5 := S4.trans S5
  obtain ⟨o1, o2, hN, hF, hQ⟩ : ∃ o1 o2, Shape (D2.arm (-1)).bodies (D2.arm (-1)).now o1 ∧ Shape (D2.arm (-1)).bodies (D2.arm (-1)).safe o2 ∧ (D2.arm (-1)).quota = 1048576 := by
    rcases Sw with ⟨s1, s2, s3, s4⟩ | ⟨s1, s2, s3, s4, s5⟩
    · have B2 := (Betw.mk s2 s3 s4).arm (-1)
      exact ⟨_, _, B2.now, by rw [B2.safe]; exact B2.now, B2.live.quota⟩
    · simp only at s2 s3 s4 s5
      rw [show D2.arm (-1) = D2 by unfold Dk.arm; rw [if_pos s3]]
      rcases s4 with s4 | s4
      · exact ⟨_, _, s4, s5, s2⟩
      · exact ⟨_, _, s4, s5, s2⟩
  generalize D2.arm (-1) = D3 at *
  have hk : ∀ (h' : H) (F' : Nat → Prop), Step (fun _ => False) F' h h' → ∀ b, rowOf kv = some b → keeps ≠ [] → ¬ F' b := fun h' F' T b e1 e2 ow => by
    rcases T.new b ow with e3 | e3
    · exact e3
    · exact K.lies e2 e1 e3
  ((try simp -implicitDefEqProofs only [later, laterE, laterD, laterR]); (repeat (first | simp -implicitDefEqProofs only [go_sem, ↓reduceIte, Nat.reduceEqDiff, Nat.reduceAdd, Nat.reduceLeDiff, Nat.reduceLT, Nat.reduceMul, reduceCtorEq, Int.reduceEq, Int.reduceLT, Int.reduceLE, Int.reduceNeg, Int.reduceToNat, Int.reduceMul, Int.reduceAdd, Int.reduceSub] | simp (disch := (first | omega | (simp only [go_sem]; done) | (simp only [lens]; omega))) only [cds])))
  refine crash_ac A5 kv keeps true (K.keep fun b o _ hb => S5.keep _ _ (fun x => x) hb) (hk _ _ S5) (by have := hN.cases.1; omega) (by have := hF.cases.1; omega) fun h6 bn6 bs6 A6 S6 => ?_
  replace S6 := S5.trans S6
  obtain ⟨L4, t4, N4⟩ := crash_live hQ hN hF keeps true
  have l4 : (D3.crash keeps true).left = -1 := rfl
  generalize D3.crash keeps true = D4 at *
  ((try simp -implicitDefEqProofs only [later, laterE, laterD, laterR]); (repeat (first | simp -implicitDefEqProofs only [go_sem, ↓reduceIte, Nat.reduceEqDiff, Nat.reduceAdd, Nat.reduceLeDiff, Nat.reduceLT, Nat.reduceMul, reduceCtorEq, Int.reduceEq, Int.reduceLT, Int.reduceLE, Int.reduceNeg, Int.reduceToNat, Int.reduceMul, Int.reduceAdd, Int.reduceSub] | simp (disch := (first | omega | (simp only [go_sem]; done) | (simp only [lens]; omega))) only [cds])))
  refine drop_ac A6 L4.dead l4 fun h7 bs7 A7 S7 => ?_
  replace S7 := S6.trans S7
  rw [N4.dropped] at A7
  ((try simp -implicitDefEqProofs only [later, laterE, laterD, laterR]); (repeat (first | simp -implicitDefEqProofs only [go_sem, ↓reduceIte, Nat.reduceEqDiff, Nat.reduceAdd, Nat.reduceLeDiff, Nat.reduceLT, Nat.reduceMul, reduceCtorEq, Int.reduceEq, Int.reduceLT, Int.reduceLE, Int.reduceNeg, Int.reduceToNat, Int.reduceMul, Int.reduceAdd, Int.reduceSub] | simp (disch := (first | omega | (simp only [go_sem]; done) | (simp only [lens]; omega))) only [cds])))
  refine drop_ac A7 L4.dead l4 fun h8 bs8 A8 S8 => ?_
  replace S8 := S7.trans S8
  replace A8 : DiskAt h8 p bn6 bs8 fs4 { D4 with now := [], safe := [] } := A8
  ((try simp -implicitDefEqProofs only [later, laterE, laterD, laterR]); (repeat (first | simp -implicitDefEqProofs only [go_sem, ↓reduceIte, Nat.reduceEqDiff, Nat.reduceAdd, Nat.reduceLeDiff, Nat.reduceLT, Nat.reduceMul, reduceCtorEq, Int.reduceEq, Int.reduceLT, Int.reduceLE, Int.reduceNeg, Int.reduceToNat, Int.reduceMul, Int.reduceAdd, Int.reduceSub] | simp (disch := (first | omega | (simp only [go_sem]; done) | (simp only [lens]; omega))) only [cds])))
  refine crash_ac A8 kv keeps false (K.keep fun b o _ hb => S8.keep _ _ (fun x => x) hb) (hk _ _ S8) (by simp) (by simp) fun h9 bn9 bs9 A9 S9 => ?_
  replace S9 := S8.trans S9
  have E9 : Dk.crash { D4 with now := [], safe := [] } keeps false = ⟨D4.bodies, [], [], D4.quota, -1, false⟩ := by simp [Dk.crash, rising, crashB]
  rw [E9] at A9
  ((try simp -implicitDefEqProofs only [later, laterE, laterD, laterR]); (repeat (first | simp -implicitDefEqProofs only [go_sem, ↓reduceIte, Nat.reduceEqDiff, Nat.reduceAdd, Nat.reduceLeDiff, Nat.reduceLT, Nat.reduceMul, reduceCtorEq, Int.reduceEq, Int.reduceLT, Int.reduceLE, Int.reduceNeg, Int.reduceToNat, Int.reduceMul, Int.reduceAdd, Int.reduceSub] | simp (disch := (first | omega | (simp only [go_sem]; done) | (simp only [lens]; omega))) only [cds])))
  refine load_ac A9 (S9.keep _ _ (fun x => x) hG) ⟨S9.keep _ _ (fun x => x) hE.syn, S9.keep _ _ (fun x => x) hE.rng⟩ ?_
  rw [show Dk.load ⟨D4.bodies, [], [], D4.quota, -1, false⟩ = ([], 5) from rfl]
  ((try simp -implicitDefEqProofs only [later, laterE, laterD, laterR]); (repeat (first | simp -implicitDefEqProofs only [go_sem, ↓reduceIte, Nat.reduceEqDiff, Nat.reduceAdd, Nat.reduceLeDiff, Nat.reduceLT, Nat.reduceMul, reduceCtorEq, Int.reduceEq, Int.reduceLT, Int.reduceLE, Int.reduceNeg, Int.reduceToNat, Int.reduceMul, Int.reduceAdd, Int.reduceSub] | simp (disch := (first | omega | (simp only [go_sem]; done) | (simp only [lens]; omega))) only [cds])))
  refine awake_ac (S9.keep _ _ (fun x => x) hG) ⟨S9.keep _ _ (fun x => x) hE.syn, S9.keep _ _ (fun x => x) hE.rng⟩ ?_
  ((try simp -implicitDefEqProofs only [later, laterE, laterD, laterR]); (repeat (first | simp -implicitDefEqProofs only [go_sem, ↓reduceIte, Nat.reduceEqDiff, Nat.reduceAdd, Nat.reduceLeDiff, Nat.reduceLT, Nat.reduceMul, reduceCtorEq, Int.reduceEq, Int.reduceLT, Int.reduceLE, Int.reduceNeg, Int.reduceToNat, Int.reduceMul, Int.reduceAdd, Int.reduceSub] | simp (disch := (first | omega | (simp only [go_sem]; done) | (simp only [lens]; omega))) only [cds])))
  refine used_ac A9 (by simp) ?_
  rw [show Dk.used ⟨D4.bodies, [], [], D4.quota, -1, false⟩ = 0 from rfl]
  ((try simp -implicitDefEqProofs only [later, laterE, laterD, laterR]); (repeat (first | simp -implicitDefEqProofs only [go_sem, ↓reduceIte, Nat.reduceEqDiff, Nat.reduceAdd, Nat.reduceLeDiff, Nat.reduceLT, Nat.reduceMul, reduceCtorEq, Int.reduceEq, Int.reduceLT, Int.reduceLE, Int.reduceNeg, Int.reduceToNat, Int.reduceMul, Int.reduceAdd, Int.reduceSub] | simp (disch := (first | omega | (simp only [go_sem]; done) | (simp only [lens]; omega))) only [cds])))
  exact ⟨_, Step.sub S9, hq⟩
end Go.Proofs.YtijipnkdabdioabGreatDoor
