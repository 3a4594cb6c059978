/- The disk, 8: crashes. -/
import Derived.Test.YtijipnkdabdioabGreatDoorD7
import Derived.Test.YtijipnkdabdioabGreatDoorO3
set_option linter.unusedSimpArgs false
set_option linter.unusedVariables false
namespace Go.Proofs.YtijipnkdabdioabGreatDoor
open Mir
def keepOf (keeps : List Int) (k : Nat) (t : Txt) : Txt := match keeps[k]? with | none => [] | some n => t.take n.toNat
def tailOf (b : Txt × Txt) : Txt := if b.2.isPrefixOf b.1 then b.1.drop b.2.length else []
def crashB (keeps : List Int) (l : List (Txt × Nat)) : Nat → List Txt → List (Txt × Txt) → List (Txt × Txt)
  | _, [], B => B
  | k, n :: ns, B => crashB keeps l (k + 1) ns (match getL l n with
    | some i => match B[i]? with
      | some b => B.set i (b.2 ++ keepOf keeps k (tailOf b), b.2 ++ keepOf keeps k (tailOf b))
      | none => B
    | none => B)
def rising (l : List (Txt × Nat)) : List Txt := (l.map (·.1)).mergeSort (fun x y => decide (x ≤ y))
def Dk.crash (D : Dk) (keeps : List Int) (names : Bool) : Dk :=
  let l := if names then D.now else D.safe
  { bodies := crashB keeps l 0 (rising l) D.bodies, now := l, safe := l, quota := D.quota, left := -1, dead := false }
variable {h : H} {p bn bs : Nat} {fs : List Nat} {D : Dk} {Q : V → H → Prop}
/-- A slice of numbers. -/
abbrev IntsAt (h : H) (v : V) (ks : List Int) : Prop := SlAt (V.int .i64) h v ks
theorem crashB_small {keeps : List Int} {l : List (Txt × Nat)} : ∀ {ns : List Txt} {k : Nat} {B : List (Txt × Txt)}, (crashB keeps l k ns B).length = B.length
  | [], _, _ => rfl
  | n :: ns, k, B => by
    rw [crashB, crashB_small]
    cases getL l n with
    | none => rfl
    | some i => simp only; cases B[i]? <;> simp
theorem keepOf_len (keeps : List Int) (k : Nat) (t : Txt) : (keepOf keeps k t).length ≤ t.length := by
  unfold keepOf; split
  · simp
  · rw [List.length_take]; omega
theorem ll_slOf {rb n : Nat} : llE (slOf rb n) = some (.int .i64 (n : Nat)) := by
  unfold slOf; split
  · rename_i e; subst e; rfl
  · rfl
theorem newb_small {b : Txt × Txt} (hb : b.1.length ≤ 1048576 ∧ b.2.length ≤ 1048576) (keeps : List Int) (k : Nat) : (b.2 ++ keepOf keeps k (tailOf b)).length ≤ 1048576 := by
  rw [List.length_append]
  have h1 := keepOf_len keeps k (tailOf b)
  have h2 : b.2.length + (tailOf b).length ≤ 1048576 := by
    unfold tailOf
    split
    · rename_i hp
      have := (List.isPrefixOf_iff_prefix.1 hp).length_le
      rw [List.length_drop]; omega
    · simp; omega
  omega
theorem ents_len {l : List (Txt × Nat)} : (ents fs l).length = l.length := by simp [ents]
theorem ix_slOf {rb n i : Nat} (hi : i < n) : ixE 1 (slOf rb n) (.int .i64 i) = some (.ptr rb i) := by
  unfold slOf; rw [if_neg (by omega), ix_sl (by omega)]; simp
theorem rising_len {l : List (Txt × Nat)} : (rising l).length = l.length := by simp [rising]
theorem rising_mem {l : List (Txt × Nat)} {n : Txt} : n ∈ rising l ↔ n ∈ l.map (·.1) := (List.mergeSort_perm _ _).mem_iff
theorem crash_ac (A : DiskAt h p bn bs fs D) (kv : V) (keeps : List Int) (names : Bool) (I : IntsAt h kv keeps) (hk : ∀ b, rowOf kv = some b → keeps ≠ [] → ¬ own p bn bs fs b) (hl1 : D.now.length ≤ 12) (hl2 : D.safe.length ≤ 12)
    (hq : ∀ h' bn' bs', DiskAt h' p bn' bs' fs (D.crash keeps names) → Step (own p bn bs fs) (own p bn' bs' fs) h h' → Q (.tup []) h') :
    AC pg (.fn 9) [.ptr p 0, kv, .bool names] h Q := by
  refine AC.fn' (g := g9) rfl (by simp only [List.length_cons, List.length_nil, g9]; decide) ?_; simp only [g9]
  have hd := A.head
  rw [E_seq']
  have hll : (if names then D.now else D.safe).length ≤ 12 := by cases names <;> assumption
  have hcr : D.crash keeps names = { bodies := crashB keeps (if names then D.now else D.safe) 0 (rising (if names then D.now else D.safe)) D.bodies, now := (if names then D.now else D.safe), safe := (if names then D.now else D.safe), quota := D.quota, left := -1, dead := false } := rfl
  rw [hcr] at hq
  refine E.cut AC.mono (fun e a' h1 => e = .nm ∧ a'.d = [] ∧ a'.t 0 = .ptr p 0 ∧ a'.t 1 = kv ∧ ∃ bn1, DiskAt h1 p bn1 bs fs { D with now := if names then D.now else D.safe } ∧ Step (own p bn bs fs) (own p bn1 bs fs) h h1) ?_ ?_
  · cases names
    · ((try simp -implicitDefEqProofs only [later, laterE, laterD, laterR]); (repeat (first | simp -implicitDefEqProofs only [go_sem, ↓reduceIte, Nat.reduceEqDiff, Nat.reduceAdd, Nat.reduceLeDiff, Nat.reduceLT, Nat.reduceMul, reduceCtorEq, Int.reduceEq, Int.reduceLT, Int.reduceLE, Int.reduceNeg, Int.reduceToNat, Int.reduceMul, Int.reduceAdd, Int.reduceSub, hd] | simp (disch := (first | omega | (simp only [go_sem]; done) | (simp only [lens]; omega))) only [cds, hd])))
      refine cloneM_ac A.safe fun h1 b hb M S1 K1 => ?_
      have A1 := A.other (h' := h1) fun c o _ hc => K1 c o hc
      have hd1 := K1 _ _ hd
      have nb : b ≠ bs := fun e => A.lies own_bs (e ▸ hb)
      have A2 := A1.newNow M nb A.safeIn
      ((try simp -implicitDefEqProofs only [later, laterE, laterD, laterR]); (repeat (first | simp -implicitDefEqProofs only [go_sem, ↓reduceIte, Nat.reduceEqDiff, Nat.reduceAdd, Nat.reduceLeDiff, Nat.reduceLT, Nat.reduceMul, reduceCtorEq, Int.reduceEq, Int.reduceLT, Int.reduceLE, Int.reduceNeg, Int.reduceToNat, Int.reduceMul, Int.reduceAdd, Int.reduceSub, hd1] | simp (disch := (first | omega | (simp only [go_sem]; done) | (simp only [lens]; omega))) only [cds, hd1])))
      refine ⟨b, by simpa using A2, Step.put ⟨fun c o _ hc => K1 c o hc, ?_⟩ (.inl own_p)⟩
      rintro c (e | e | e | e)
      · exact .inl (.inl e)
      · subst e; exact .inr hb
      · exact .inl (.inr (.inr (.inl e)))
      · exact .inl (own_f e)
    · ((try simp -implicitDefEqProofs only [later, laterE, laterD, laterR]); (repeat (first | simp -implicitDefEqProofs only [go_sem, ↓reduceIte, Nat.reduceEqDiff, Nat.reduceAdd, Nat.reduceLeDiff, Nat.reduceLT, Nat.reduceMul, reduceCtorEq, Int.reduceEq, Int.reduceLT, Int.reduceLE, Int.reduceNeg, Int.reduceToNat, Int.reduceMul, Int.reduceAdd, Int.reduceSub, hd] | simp (disch := (first | omega | (simp only [go_sem]; done) | (simp only [lens]; omega))) only [cds, hd])))
      exact ⟨bn, by simpa using A, Step.refl⟩
  generalize (if names then D.now else D.safe) = l at *
  rintro e ⟨t, d⟩ h1 ⟨rfl, hdd, t0, t1, bn1, A1, S1⟩
  simp only at hdd t0 t1; subst hdd
  have hd1 := A1.head
  obtain ⟨es, ck, hbn, R⟩ := A1.now
  ((try simp -implicitDefEqProofs only [later, laterE, laterD, laterR]); (repeat (first | simp -implicitDefEqProofs only [go_sem, ↓reduceIte, Nat.reduceEqDiff, Nat.reduceAdd, Nat.reduceLeDiff, Nat.reduceLT, Nat.reduceMul, reduceCtorEq, Int.reduceEq, Int.reduceLT, Int.reduceLE, Int.reduceNeg, Int.reduceToNat, Int.reduceMul, Int.reduceAdd, Int.reduceSub, hd1, t0, t1] | simp (disch := (first | omega | (simp only [go_sem]; done) | (simp only [lens]; omega))) only [cds, hd1, t0, t1])))
  refine keys_ac fun bx hbx => ?_
  have nbx := ne_fresh hbn hbx
  ((try simp -implicitDefEqProofs only [later, laterE, laterD, laterR]); (repeat (first | simp -implicitDefEqProofs only [go_sem, ↓reduceIte, Nat.reduceEqDiff, Nat.reduceAdd, Nat.reduceLeDiff, Nat.reduceLT, Nat.reduceMul, reduceCtorEq, Int.reduceEq, Int.reduceLT, Int.reduceLE, Int.reduceNeg, Int.reduceToNat, Int.reduceMul, Int.reduceAdd, Int.reduceSub] | simp (disch := (first | omega | (simp only [go_sem]; done) | (simp only [lens]; omega))) only [cds])))
  have hel : es.length = l.length := by rw [R.len]; simp [ents]
  refine sorted_ac hadd_same (by rw [hadd_ne' nbx]; exact hbn) R (by omega) fun rb hrb => ?_
  have hen : (ents fs l).map (·.1) = l.map (·.1) := by simp [ents, Function.comp_def]
  rw [show ({ D with now := l } : Dk).now = l from rfl, hen, ents_len]
  rw [show ((l.map (·.1)).mergeSort fun x y => decide (x ≤ y)) = rising l from rfl]
  have hks : (rising l).length = l.length := rising_len
  -- the heap at the loop's start
  have A3 : DiskAt (withRow (hadd h1 bx (.cells [.map bn1] false)) rb (rising l).toArray) p bn1 bs fs { D with now := l } := by
    unfold withRow; split
    · exact A1.new hbx
    · exact (A1.new hbx).new hrb
  have S3 : Step (own p bn1 bs fs) (own p bn1 bs fs) h1 (withRow (hadd h1 bx (.cells [.map bn1] false)) rb (rising l).toArray) := by
    rw [hadd_none] at hrb
    unfold withRow; split
    · exact Step.refl.put (.inr hbx)
    · exact (Step.refl.put (.inr hbx)).put (.inr hrb.2)
  have hrow : ∀ i, i < l.length → withRow (hadd h1 bx (.cells [.map bn1] false)) rb (rising l).toArray rb = some (.cells (rowV (rising l).toArray) false) := fun i hi => by
    unfold withRow; rw [if_neg (by rw [List.size_toArray]; omega), hadd_same]; rfl
  have frb : ¬ own p bn1 bs fs rb := by rw [hadd_none] at hrb; exact A1.free hrb.2
  generalize withRow (hadd h1 bx (.cells [.map bn1] false)) rb (rising l).toArray = hs at *
  have Ss := S1.trans S3
  clear hrb hbx nbx S3 hbn R A1 hd1 S1
  have Is : IntsAt hs kv keeps := by
    by_cases hne : keeps = []
    · subst hne
      rcases I with I | ⟨b, o, n, cs, ro, rfl, x1, x2, x3⟩
      · exact .inl I
      · have hn : n = 0 := by
          have := congrArg List.length x3
          simp only [List.length_take, List.length_drop, List.length_map, List.length_nil] at this; omega
        subst hn
        exact .inl ⟨rfl, .inr ⟨b, o, rfl⟩⟩
    · exact I.keep fun b o e hb => Ss.keep b o (hk b e hne) hb
  have hks' : ∀ b, rowOf kv = some b → keeps ≠ [] → ¬ own p bn1 bs fs b := fun b e hne o => by
    rcases Ss.new b o with x | x
    · exact hk b e hne x
    · exact I.lies hne e x
  ((try simp -implicitDefEqProofs only [later, laterE, laterD, laterR]); (repeat (first | simp -implicitDefEqProofs only [go_sem, ↓reduceIte, Nat.reduceEqDiff, Nat.reduceAdd, Nat.reduceLeDiff, Nat.reduceLT, Nat.reduceMul, reduceCtorEq, Int.reduceEq, Int.reduceLT, Int.reduceLE, Int.reduceNeg, Int.reduceToNat, Int.reduceMul, Int.reduceAdd, Int.reduceSub, ll_slOf] | simp (disch := (first | omega | (simp only [go_sem]; done) | (simp only [lens]; omega))) only [cds, ll_slOf])))
  refine E.loopX AC.mono (fun (x : Nat × List (Txt × Txt)) a' h' => x.1 ≤ l.length ∧ crashB keeps l x.1 ((rising l).drop x.1) x.2 = crashB keeps l 0 (rising l) D.bodies ∧ x.2.length = D.bodies.length ∧
      DiskAt h' p bn1 bs fs { D with now := l, bodies := x.2 } ∧ Step (own p bn1 bs fs) (own p bn1 bs fs) hs h' ∧
      a'.d = [] ∧ a'.t 0 = .ptr p 0 ∧ a'.t 1 = kv ∧ a'.t 27 = slOf rb l.length ∧ a'.t 28 = .int .i64 l.length ∧ a'.t 29 = .int .i64 x.1) (fun x => l.length - x.1) (0, D.bodies) ?_ ?_
  · refine ⟨Nat.zero_le _, rfl, rfl, A3, Step.refl, ?_⟩
    ((try simp -implicitDefEqProofs only [later, laterE, laterD, laterR]); (repeat (first | simp -implicitDefEqProofs only [go_sem, ↓reduceIte, Nat.reduceEqDiff, Nat.reduceAdd, Nat.reduceLeDiff, Nat.reduceLT, Nat.reduceMul, reduceCtorEq, Int.reduceEq, Int.reduceLT, Int.reduceLE, Int.reduceNeg, Int.reduceToNat, Int.reduceMul, Int.reduceAdd, Int.reduceSub, t0, t1] | simp (disch := (first | omega | (simp only [go_sem]; done) | (simp only [lens]; omega))) only [cds, t0, t1])))
  · rintro ⟨i, B⟩ ⟨t, d⟩ h' ⟨hi, hc, hB, A4, S4, hdd, t0, t1, t27, t28, t29⟩
    simp only at hi hc hB A4 hdd t0 t1 t27 t28 t29; subst hdd
    simp only
    by_cases c : (i : Int) < l.length
    · have c' : i < l.length := by omega
      have hks1 : i < (rising l).length := by rw [hks]; exact c'
      have hn := rowV_get (d := (rising l).toArray) (i := i) (by rw [List.size_toArray]; exact hks1)
      have hr := S4.keep rb _ frb (hrow i c')
      rw [List.drop_eq_getElem_cons hks1, crashB] at hc
      have hgi : (rising l).toArray[i]! = (rising l)[i] := by simp [hks1]
      rw [hgi] at hn
      have hmem := rising_mem.1 (List.getElem_mem hks1)
      generalize (rising l)[i] = nm at *
      obtain ⟨j, hj⟩ : ∃ j, getL l nm = some j := by
        cases e : getL l nm with
        | none => exact (getL_none.1 e hmem).elim
        | some j => exact ⟨j, rfl⟩
      obtain ⟨f, b, g1, g2, g3, g4, g5⟩ := A4.get (k := nm) hj
      obtain ⟨es4, ck4, hbn4, R4⟩ := A4.now
      have hlook := R4.look (k := nm) (z := .nilptr)
      rw [g5] at hlook
      simp only [Option.getD_some] at hlook
      rw [hj] at hc
      simp only at g2
      simp only [g2] at hc
      have hd4 := A4.head
      have hix := ix_slOf (rb := rb) c'
      have hsm := A4.small b (List.mem_of_getElem? g2)
      have hnew := newb_small hsm keeps i
      have A5 := A4.setFile (a := b.2 ++ keepOf keeps i (tailOf b)) (c := b.2 ++ keepOf keeps i (tailOf b)) g1 ⟨hnew, hnew⟩
      have S5 := S4.put (o := .cells [.str (b.2 ++ keepOf keeps i (tailOf b)), .str (b.2 ++ keepOf keeps i (tailOf b))] false) (.inl (own_f (List.mem_of_getElem? g1)))
      have hkl' := Is.len
      ((try simp -implicitDefEqProofs only [later, laterE, laterD, laterR]); (repeat (first | simp -implicitDefEqProofs only [go_sem, ↓reduceIte, Nat.reduceEqDiff, Nat.reduceAdd, Nat.reduceLeDiff, Nat.reduceLT, Nat.reduceMul, reduceCtorEq, Int.reduceEq, Int.reduceLT, Int.reduceLE, Int.reduceNeg, Int.reduceToNat, Int.reduceMul, Int.reduceAdd, Int.reduceSub, t0, t1, t27, t28, t29, hix, hr, hn, hd4, hbn4, hlook, g3] | simp (disch := (first | omega | (simp only [go_sem]; done) | (simp only [lens]; omega))) only [cds, t0, t1, t27, t28, t29, hix, hr, hn, hd4, hbn4, hlook, g3])))
      refine cutPrefixD_ac _ _ ?_
      have hsl : (tailOf b).length ≤ 1048576 := by
        unfold tailOf; split
        · rw [List.length_drop]; omega
        · simp
      cases hp : b.2.isPrefixOf b.1
      · have hT : tailOf b = [] := by unfold tailOf; rw [hp]; rfl
        rw [show (if false = true then b.1.drop b.2.length else b.1) = b.1 from rfl]
        have hz : keepOf keeps i (tailOf b) = [] := List.length_eq_zero_iff.1 (by have := keepOf_len keeps i (tailOf b); rw [hT] at *; simp at this; simp [this])
        cases hki : keeps[i]? with
        | none =>
          have hle : keeps.length ≤ i := List.getElem?_eq_none_iff.1 hki
          have hkeep : keepOf keeps i (tailOf b) = [] := by unfold keepOf; rw [hki]
          ((try simp -implicitDefEqProofs only [later, laterE, laterD, laterR]); (repeat (first | simp -implicitDefEqProofs only [go_sem, ↓reduceIte, Nat.reduceEqDiff, Nat.reduceAdd, Nat.reduceLeDiff, Nat.reduceLT, Nat.reduceMul, reduceCtorEq, Int.reduceEq, Int.reduceLT, Int.reduceLE, Int.reduceNeg, Int.reduceToNat, Int.reduceMul, Int.reduceAdd, Int.reduceSub, t0, t1, t27, t28, t29, hix, hr, hn, hd4, hbn4, hlook, g3, hkl'] | simp (disch := (first | omega | (simp only [go_sem]; done) | (simp only [lens]; omega))) only [cds, t0, t1, t27, t28, t29, hix, hr, hn, hd4, hbn4, hlook, g3, hkl'])))
          have E : b.2 ++ keepOf keeps i (tailOf b) = b.2 := by rw [hkeep]; try simp only [List.append_nil]
          rw [E] at A5 S5 hc
          refine ⟨(i + 1, B.set j (b.2, b.2)), ?_⟩
          ((try simp -implicitDefEqProofs only [later, laterE, laterD, laterR]); (repeat (first | simp -implicitDefEqProofs only [go_sem, ↓reduceIte, Nat.reduceEqDiff, Nat.reduceAdd, Nat.reduceLeDiff, Nat.reduceLT, Nat.reduceMul, reduceCtorEq, Int.reduceEq, Int.reduceLT, Int.reduceLE, Int.reduceNeg, Int.reduceToNat, Int.reduceMul, Int.reduceAdd, Int.reduceSub, List.length_set] | simp (disch := (first | omega | (simp only [go_sem]; done) | (simp only [lens]; omega))) only [cds, List.length_set])))
          refine ⟨by omega, by omega, hc, hB, A5, S5, ?_⟩
          ((repeat' apply And.intro) <;> (first | omega | rfl | assumption | (congr 1 <;> omega) | skip))
        | some k =>
          have hlt : i < keeps.length := (List.getElem?_eq_some_iff.1 hki).1
          obtain ⟨kb, ko, x1, x2, cs, ro, x3, x4⟩ := Is.at hki
          have x5 := S4.keep kb _ (hks' kb x1 (fun e => by rw [e] at hki; simp at hki)) x3
          have hke : keepOf keeps i (tailOf b) = (tailOf b).take k.toNat := by unfold keepOf; rw [hki]
          by_cases ck : k < (([] : Txt).length : Int)
          · by_cases ck0 : 0 < k
            · simp at ck; omega
            · have hkeep := hz
              ((try simp -implicitDefEqProofs only [later, laterE, laterD, laterR]); (repeat (first | simp -implicitDefEqProofs only [go_sem, ↓reduceIte, Nat.reduceEqDiff, Nat.reduceAdd, Nat.reduceLeDiff, Nat.reduceLT, Nat.reduceMul, reduceCtorEq, Int.reduceEq, Int.reduceLT, Int.reduceLE, Int.reduceNeg, Int.reduceToNat, Int.reduceMul, Int.reduceAdd, Int.reduceSub, t0, t1, t27, t28, t29, hix, hr, hn, hd4, hbn4, hlook, g3, hkl', x2, x4, x5] | simp (disch := (first | omega | (simp only [go_sem]; done) | (simp only [lens]; omega))) only [cds, t0, t1, t27, t28, t29, hix, hr, hn, hd4, hbn4, hlook, g3, hkl', x2, x4, x5])))
              have E : b.2 ++ keepOf keeps i (tailOf b) = b.2 := by rw [hkeep]; try simp only [List.append_nil]
              rw [E] at A5 S5 hc
              refine ⟨(i + 1, B.set j (b.2, b.2)), ?_⟩
              ((try simp -implicitDefEqProofs only [later, laterE, laterD, laterR]); (repeat (first | simp -implicitDefEqProofs only [go_sem, ↓reduceIte, Nat.reduceEqDiff, Nat.reduceAdd, Nat.reduceLeDiff, Nat.reduceLT, Nat.reduceMul, reduceCtorEq, Int.reduceEq, Int.reduceLT, Int.reduceLE, Int.reduceNeg, Int.reduceToNat, Int.reduceMul, Int.reduceAdd, Int.reduceSub, List.length_set] | simp (disch := (first | omega | (simp only [go_sem]; done) | (simp only [lens]; omega))) only [cds, List.length_set])))
              refine ⟨by omega, by omega, hc, hB, A5, S5, ?_⟩
              ((repeat' apply And.intro) <;> (first | omega | rfl | assumption | (congr 1 <;> omega) | skip))
          · have hkeep := hz
            ((try simp -implicitDefEqProofs only [later, laterE, laterD, laterR]); (repeat (first | simp -implicitDefEqProofs only [go_sem, ↓reduceIte, Nat.reduceEqDiff, Nat.reduceAdd, Nat.reduceLeDiff, Nat.reduceLT, Nat.reduceMul, reduceCtorEq, Int.reduceEq, Int.reduceLT, Int.reduceLE, Int.reduceNeg, Int.reduceToNat, Int.reduceMul, Int.reduceAdd, Int.reduceSub, t0, t1, t27, t28, t29, hix, hr, hn, hd4, hbn4, hlook, g3, hkl', x2, x4, x5] | simp (disch := (first | omega | (simp only [go_sem]; done) | (simp only [lens]; omega))) only [cds, t0, t1, t27, t28, t29, hix, hr, hn, hd4, hbn4, hlook, g3, hkl', x2, x4, x5])))
            have E : b.2 ++ keepOf keeps i (tailOf b) = b.2 := by rw [hkeep]; try simp only [List.append_nil]
            rw [E] at A5 S5 hc
            refine ⟨(i + 1, B.set j (b.2, b.2)), ?_⟩
            ((try simp -implicitDefEqProofs only [later, laterE, laterD, laterR]); (repeat (first | simp -implicitDefEqProofs only [go_sem, ↓reduceIte, Nat.reduceEqDiff, Nat.reduceAdd, Nat.reduceLeDiff, Nat.reduceLT, Nat.reduceMul, reduceCtorEq, Int.reduceEq, Int.reduceLT, Int.reduceLE, Int.reduceNeg, Int.reduceToNat, Int.reduceMul, Int.reduceAdd, Int.reduceSub, List.length_set] | simp (disch := (first | omega | (simp only [go_sem]; done) | (simp only [lens]; omega))) only [cds, List.length_set])))
            refine ⟨by omega, by omega, hc, hB, A5, S5, ?_⟩
            ((repeat' apply And.intro) <;> (first | omega | rfl | assumption | (congr 1 <;> omega) | skip))
      · have hT : tailOf b = b.1.drop b.2.length := by unfold tailOf; rw [hp]; rfl
        rw [show (if true = true then b.1.drop b.2.length else b.1) = b.1.drop b.2.length from rfl, ← hT]
        cases hki : keeps[i]? with
        | none =>
          have hle : keeps.length ≤ i := List.getElem?_eq_none_iff.1 hki
          have hkeep : keepOf keeps i (tailOf b) = [] := by unfold keepOf; rw [hki]
          ((try simp -implicitDefEqProofs only [later, laterE, laterD, laterR]); (repeat (first | simp -implicitDefEqProofs only [go_sem, ↓reduceIte, Nat.reduceEqDiff, Nat.reduceAdd, Nat.reduceLeDiff, Nat.reduceLT, Nat.reduceMul, reduceCtorEq, Int.reduceEq, Int.reduceLT, Int.reduceLE, Int.reduceNeg, Int.reduceToNat, Int.reduceMul, Int.reduceAdd, Int.reduceSub, t0, t1, t27, t28, t29, hix, hr, hn, hd4, hbn4, hlook, g3, hkl'] | simp (disch := (first | omega | (simp only [go_sem]; done) | (simp only [lens]; omega))) only [cds, t0, t1, t27, t28, t29, hix, hr, hn, hd4, hbn4, hlook, g3, hkl'])))
          have E : b.2 ++ keepOf keeps i (tailOf b) = b.2 := by rw [hkeep]; try simp only [List.append_nil]
          rw [E] at A5 S5 hc
          refine ⟨(i + 1, B.set j (b.2, b.2)), ?_⟩
          ((try simp -implicitDefEqProofs only [later, laterE, laterD, laterR]); (repeat (first | simp -implicitDefEqProofs only [go_sem, ↓reduceIte, Nat.reduceEqDiff, Nat.reduceAdd, Nat.reduceLeDiff, Nat.reduceLT, Nat.reduceMul, reduceCtorEq, Int.reduceEq, Int.reduceLT, Int.reduceLE, Int.reduceNeg, Int.reduceToNat, Int.reduceMul, Int.reduceAdd, Int.reduceSub, List.length_set] | simp (disch := (first | omega | (simp only [go_sem]; done) | (simp only [lens]; omega))) only [cds, List.length_set])))
          refine ⟨by omega, by omega, hc, hB, A5, S5, ?_⟩
          ((repeat' apply And.intro) <;> (first | omega | rfl | assumption | (congr 1 <;> omega) | skip))
        | some k =>
          have hlt : i < keeps.length := (List.getElem?_eq_some_iff.1 hki).1
          obtain ⟨kb, ko, x1, x2, cs, ro, x3, x4⟩ := Is.at hki
          have x5 := S4.keep kb _ (hks' kb x1 (fun e => by rw [e] at hki; simp at hki)) x3
          have hke : keepOf keeps i (tailOf b) = (tailOf b).take k.toNat := by unfold keepOf; rw [hki]
          by_cases ck : k < ((tailOf b).length : Int)
          · by_cases ck0 : 0 < k
            · have hkeep := hke
              ((try simp -implicitDefEqProofs only [later, laterE, laterD, laterR]); (repeat (first | simp -implicitDefEqProofs only [go_sem, ↓reduceIte, Nat.reduceEqDiff, Nat.reduceAdd, Nat.reduceLeDiff, Nat.reduceLT, Nat.reduceMul, reduceCtorEq, Int.reduceEq, Int.reduceLT, Int.reduceLE, Int.reduceNeg, Int.reduceToNat, Int.reduceMul, Int.reduceAdd, Int.reduceSub, t0, t1, t27, t28, t29, hix, hr, hn, hd4, hbn4, hlook, g3, hkl', x2, x4, x5] | simp (disch := (first | omega | (simp only [go_sem]; done) | (simp only [lens]; omega))) only [cds, t0, t1, t27, t28, t29, hix, hr, hn, hd4, hbn4, hlook, g3, hkl', x2, x4, x5])))
              have E : b.2 ++ keepOf keeps i (tailOf b) = b.2 ++ (tailOf b).take k.toNat := by rw [hkeep]; try simp only [List.append_nil]
              rw [E] at A5 S5 hc
              refine ⟨(i + 1, B.set j (b.2 ++ (tailOf b).take k.toNat, b.2 ++ (tailOf b).take k.toNat)), ?_⟩
              ((try simp -implicitDefEqProofs only [later, laterE, laterD, laterR]); (repeat (first | simp -implicitDefEqProofs only [go_sem, ↓reduceIte, Nat.reduceEqDiff, Nat.reduceAdd, Nat.reduceLeDiff, Nat.reduceLT, Nat.reduceMul, reduceCtorEq, Int.reduceEq, Int.reduceLT, Int.reduceLE, Int.reduceNeg, Int.reduceToNat, Int.reduceMul, Int.reduceAdd, Int.reduceSub, List.length_set] | simp (disch := (first | omega | (simp only [go_sem]; done) | (simp only [lens]; omega))) only [cds, List.length_set])))
              refine ⟨by omega, by omega, hc, hB, A5, S5, ?_⟩
              ((repeat' apply And.intro) <;> (first | omega | rfl | assumption | (congr 1 <;> omega) | skip))
            · have hkeep : keepOf keeps i (tailOf b) = [] := by rw [hke, show k.toNat = 0 from by omega]; rfl
              ((try simp -implicitDefEqProofs only [later, laterE, laterD, laterR]); (repeat (first | simp -implicitDefEqProofs only [go_sem, ↓reduceIte, Nat.reduceEqDiff, Nat.reduceAdd, Nat.reduceLeDiff, Nat.reduceLT, Nat.reduceMul, reduceCtorEq, Int.reduceEq, Int.reduceLT, Int.reduceLE, Int.reduceNeg, Int.reduceToNat, Int.reduceMul, Int.reduceAdd, Int.reduceSub, t0, t1, t27, t28, t29, hix, hr, hn, hd4, hbn4, hlook, g3, hkl', x2, x4, x5] | simp (disch := (first | omega | (simp only [go_sem]; done) | (simp only [lens]; omega))) only [cds, t0, t1, t27, t28, t29, hix, hr, hn, hd4, hbn4, hlook, g3, hkl', x2, x4, x5])))
              have E : b.2 ++ keepOf keeps i (tailOf b) = b.2 := by rw [hkeep]; try simp only [List.append_nil]
              rw [E] at A5 S5 hc
              refine ⟨(i + 1, B.set j (b.2, b.2)), ?_⟩
              ((try simp -implicitDefEqProofs only [later, laterE, laterD, laterR]); (repeat (first | simp -implicitDefEqProofs only [go_sem, ↓reduceIte, Nat.reduceEqDiff, Nat.reduceAdd, Nat.reduceLeDiff, Nat.reduceLT, Nat.reduceMul, reduceCtorEq, Int.reduceEq, Int.reduceLT, Int.reduceLE, Int.reduceNeg, Int.reduceToNat, Int.reduceMul, Int.reduceAdd, Int.reduceSub, List.length_set] | simp (disch := (first | omega | (simp only [go_sem]; done) | (simp only [lens]; omega))) only [cds, List.length_set])))
              refine ⟨by omega, by omega, hc, hB, A5, S5, ?_⟩
              ((repeat' apply And.intro) <;> (first | omega | rfl | assumption | (congr 1 <;> omega) | skip))
          · have hkeep : keepOf keeps i (tailOf b) = tailOf b := by rw [hke]; exact List.take_of_length_le (by omega)
            ((try simp -implicitDefEqProofs only [later, laterE, laterD, laterR]); (repeat (first | simp -implicitDefEqProofs only [go_sem, ↓reduceIte, Nat.reduceEqDiff, Nat.reduceAdd, Nat.reduceLeDiff, Nat.reduceLT, Nat.reduceMul, reduceCtorEq, Int.reduceEq, Int.reduceLT, Int.reduceLE, Int.reduceNeg, Int.reduceToNat, Int.reduceMul, Int.reduceAdd, Int.reduceSub, t0, t1, t27, t28, t29, hix, hr, hn, hd4, hbn4, hlook, g3, hkl', x2, x4, x5] | simp (disch := (first | omega | (simp only [go_sem]; done) | (simp only [lens]; omega))) only [cds, t0, t1, t27, t28, t29, hix, hr, hn, hd4, hbn4, hlook, g3, hkl', x2, x4, x5])))
            have E : b.2 ++ keepOf keeps i (tailOf b) = b.2 ++ tailOf b := by rw [hkeep]; try simp only [List.append_nil]
            rw [E] at A5 S5 hc
            refine ⟨(i + 1, B.set j (b.2 ++ tailOf b, b.2 ++ tailOf b)), ?_⟩
            ((try simp -implicitDefEqProofs only [later, laterE, laterD, laterR]); (repeat (first | simp -implicitDefEqProofs only [go_sem, ↓reduceIte, Nat.reduceEqDiff, Nat.reduceAdd, Nat.reduceLeDiff, Nat.reduceLT, Nat.reduceMul, reduceCtorEq, Int.reduceEq, Int.reduceLT, Int.reduceLE, Int.reduceNeg, Int.reduceToNat, Int.reduceMul, Int.reduceAdd, Int.reduceSub, List.length_set] | simp (disch := (first | omega | (simp only [go_sem]; done) | (simp only [lens]; omega))) only [cds, List.length_set])))
            refine ⟨by omega, by omega, hc, hB, A5, S5, ?_⟩
            ((repeat' apply And.intro) <;> (first | omega | rfl | assumption | (congr 1 <;> omega) | skip))
    · have hi' : i = l.length := by omega
      subst hi'
      rw [List.drop_of_length_le (by omega), crashB] at hc
      subst hc
      have hd4 := A4.head
      ((try simp -implicitDefEqProofs only [later, laterE, laterD, laterR]); (repeat (first | simp -implicitDefEqProofs only [go_sem, ↓reduceIte, Nat.reduceEqDiff, Nat.reduceAdd, Nat.reduceLeDiff, Nat.reduceLT, Nat.reduceMul, reduceCtorEq, Int.reduceEq, Int.reduceLT, Int.reduceLE, Int.reduceNeg, Int.reduceToNat, Int.reduceMul, Int.reduceAdd, Int.reduceSub, t0, t1, t27, t28, t29, hd4] | simp (disch := (first | omega | (simp only [go_sem]; done) | (simp only [lens]; omega))) only [cds, t0, t1, t27, t28, t29, hd4])))
      refine cloneM_ac A4.now fun h5 b hb M S5 K5 => ?_
      have A5 := A4.other (h' := h5) fun c o _ hc => K5 c o hc
      have hd5 := K5 _ _ hd4
      have nb : b ≠ bn1 := fun e => A4.lies own_bn (e ▸ hb)
      have A6 := A5.newSafe M nb A4.nowIn
      have A7 := A6.nums (q := D.quota) (l := -1) (d := false) A4.room (by omega)
      rw [hadd_twice] at A7
      ((try simp -implicitDefEqProofs only [later, laterE, laterD, laterR]); (repeat (first | simp -implicitDefEqProofs only [go_sem, ↓reduceIte, Nat.reduceEqDiff, Nat.reduceAdd, Nat.reduceLeDiff, Nat.reduceLT, Nat.reduceMul, reduceCtorEq, Int.reduceEq, Int.reduceLT, Int.reduceLE, Int.reduceNeg, Int.reduceToNat, Int.reduceMul, Int.reduceAdd, Int.reduceSub, hd5, t0] | simp (disch := (first | omega | (simp only [go_sem]; done) | (simp only [lens]; omega))) only [cds, hd5, t0])))
      refine ⟨_, Sub.refl, hq _ _ _ A7 (Ss.trans (S4.trans (Step.put ⟨fun c o _ hc => K5 c o hc, ?_⟩ (.inl own_p))))⟩
      rintro c (e | e | e | e)
      · exact .inl (.inl e)
      · exact .inl (.inr (.inl e))
      · subst e; exact .inr hb
      · exact .inl (own_f e)
end Go.Proofs.YtijipnkdabdioabGreatDoor
