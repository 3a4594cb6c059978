/- Sorting, 3: a map's keys, collected and sorted. -/
import Derived.Test.YtijipnkdabdioabGreatDoorO9
set_option linter.unusedSimpArgs false
set_option linter.unusedVariables false
namespace Go.Proofs.YtijipnkdabdioabGreatDoor
open Mir
variable {h : H} {Q : V → H → Prop}
/-- A slice of texts: none, or a row of its own at rb. -/
def slOf (rb n : Nat) : V := if n = 0 then .nilsl else .sl rb 0 1 n
def withRow (h : H) (rb : Nat) (d : Txts) : H := if d.size = 0 then h else hadd h rb (rowO d)
/-- The keys that were met. -/
def keysOf (es : Ents) : Txts := (es.map fun e => match e.1 with | .str s => s | _ => []).toArray
theorem keysOf_snoc {es : Ents} {s : Txt} {v : V} {n : Nat} : keysOf (es ++ [(.str s, v, n)]) = (keysOf es).push s := by simp [keysOf]
theorem keysOf_size {es : Ents} : (keysOf es).size = es.length := by simp [keysOf]
theorem rowV_push {d : Txts} {s : Txt} : rowV (d.push s) = rowV d ++ [.str s] := by simp [rowV]
theorem rt_slOf {rb n : Nat} : rtE (slOf rb n) = some (slOf rb n) := by unfold slOf; split <;> rfl
theorem collect_ac {es : Ents} {ck m bx : Nat} (hbx : h bx = some (.cells [.map m] false)) (hm : h m = some (.map es ck)) {l : List (Txt × V)} (R : Rep es ck l) (hl : es.length < 4294967296)
    (hq : ∀ rb done, h rb = none → done.Perm es → Q (slOf rb es.length) (withRow h rb (keysOf done))) :
    AC pg (.fn 54) [.nilsl, .fn 42 [] [.ptr bx 0]] h Q := by
  refine AC.fn' (g := g54) rfl (by simp only [List.length_cons, List.length_nil, g54]; decide) ?_; simp only [g54]
  ((try simp -implicitDefEqProofs only [later, laterE, laterD, laterR]); (repeat (first | simp -implicitDefEqProofs only [go_sem, ↓reduceIte, Nat.reduceEqDiff, Nat.reduceAdd, Nat.reduceLeDiff, Nat.reduceLT, Nat.reduceMul, reduceCtorEq, Int.reduceEq, Int.reduceLT, Int.reduceLE, Int.reduceNeg, Int.reduceToNat, Int.reduceMul, Int.reduceAdd, Int.reduceSub] | simp (disch := (first | omega | (simp only [go_sem]; done) | (simp only [lens]; omega))) only [cds])))
  intro sb hsb
  ((try simp -implicitDefEqProofs only [later, laterE, laterD, laterR]); (repeat (first | simp -implicitDefEqProofs only [go_sem, ↓reduceIte, Nat.reduceEqDiff, Nat.reduceAdd, Nat.reduceLeDiff, Nat.reduceLT, Nat.reduceMul, reduceCtorEq, Int.reduceEq, Int.reduceLT, Int.reduceLE, Int.reduceNeg, Int.reduceToNat, Int.reduceMul, Int.reduceAdd, Int.reduceSub] | simp (disch := (first | omega | (simp only [go_sem]; done) | (simp only [lens]; omega))) only [cds])))
  intro lb hlb
  rw [hadd_none] at hlb
  refine AC.fn' (g := g42) rfl (by simp only [List.length_cons, List.length_nil, g42]; decide) ?_; simp only [g42]
  have n1 := ne_fresh hbx hsb
  have n2 := ne_fresh hbx hlb.2
  have n3 := ne_fresh hm hsb
  have n4 := ne_fresh hm hlb.2
  ((try simp -implicitDefEqProofs only [later, laterE, laterD, laterR]); (repeat (first | simp -implicitDefEqProofs only [go_sem, ↓reduceIte, Nat.reduceEqDiff, Nat.reduceAdd, Nat.reduceLeDiff, Nat.reduceLT, Nat.reduceMul, reduceCtorEq, Int.reduceEq, Int.reduceLT, Int.reduceLE, Int.reduceNeg, Int.reduceToNat, Int.reduceMul, Int.reduceAdd, Int.reduceSub, hbx, hm] | simp (disch := (first | omega | (simp only [go_sem]; done) | (simp only [lens]; omega))) only [cds, hbx, hm])))
  intro it hit
  rw [hadd_none, hadd_none] at hit
  have n5 := ne_fresh hbx hit.2.2
  have n6 := ne_fresh hm hit.2.2
  ((try simp -implicitDefEqProofs only [later, laterE, laterD, laterR]); (repeat (first | simp -implicitDefEqProofs only [go_sem, ↓reduceIte, Nat.reduceEqDiff, Nat.reduceAdd, Nat.reduceLeDiff, Nat.reduceLT, Nat.reduceMul, reduceCtorEq, Int.reduceEq, Int.reduceLT, Int.reduceLE, Int.reduceNeg, Int.reduceToNat, Int.reduceMul, Int.reduceAdd, Int.reduceSub] | simp (disch := (first | omega | (simp only [go_sem]; done) | (simp only [lens]; omega))) only [cds])))
  generalize hT : upd (upd (upd (Mir.start [V.nilsl, V.fn 42 [] [V.ptr bx 0]]) 2 (V.ptr sb 0)) 4 V.nilsl) 6 (V.fn 42 [] [V.ptr bx 0]) = T
  have hT2 : T 2 = .ptr sb 0 := by subst hT; rfl
  have hT4 : T 4 = .nilsl := by subst hT; rfl
  clear hT
  refine E.loopX AC.mono (fun (x : Ents × Ents) a' h' => ∃ rb, Half es ck (x.1.map fun e => e.2.2) x.1 x.2 ∧ (∀ c o, h c = some o → h' c = some o) ∧ h' sb = some (.cells [slOf rb x.1.length] false) ∧
      h' lb = some (.loop T [7] (IC.ops [{ dst := some 5, guard := none, k := Kind.p (PK.mv (Opd.tmp 7)), id := 0, watch := [] }])
          (IC.block 1
            (IC.ops
              [{ dst := some 8, guard := none, k := Kind.r (RK.load 1 false (Opd.tmp 2)), id := 0, watch := [] },
                { dst := some 9, guard := none, k := Kind.p (PK.mv (Opd.tmp 5)), id := 0, watch := [] },
                { dst := some 10, guard := none, k := Kind.a (AK.mkSl [V.str []] 1 1 [(0, 1, Opd.tmp 9)]), id := 0, watch := [] },
                { dst := some 11, guard := none, k := Kind.h (HK.app 1 16 (Opd.tmp 8) (Opd.tmp 10)), id := 0, watch := [] },
                { dst := none, guard := none, k := Kind.h (HK.store 1 (Opd.tmp 2) (Opd.tmp 11)), id := 0, watch := [] }])) .ready none) ∧
      h' it = some (.iter (some m) ck (x.1.map fun e => e.2.2) ck) ∧ h rb = none ∧ (x.1.length ≠ 0 → h' rb = some (rowO (keysOf x.1)) ∧ rb ≠ sb ∧ rb ≠ lb ∧ rb ≠ it) ∧
      a'.d = [] ∧ a'.t 0 = .yield lb ∧ a'.t 1 = .ptr bx 0 ∧ a'.t 5 = .ptr it 0) (fun x => x.2.length) ([], es) ?_ ?_
  · refine ⟨sb, Half.start R.born R.old, fun c o hc => ?_, ?_, ?_, hadd_same, hsb, fun x => (x rfl).elim, ?_⟩
    · rw [hadd_ne' (ne_fresh hc hit.2.2), hadd_ne' (ne_fresh hc hlb.2), hadd_ne' (ne_fresh hc hsb)]; exact hc
    · rw [hadd_ne' (Ne.symm hit.2.1), hadd_ne' (Ne.symm hlb.1), hadd_same]; rfl
    · rw [hadd_ne' (Ne.symm hit.1), hadd_same]
    · ((try simp -implicitDefEqProofs only [later, laterE, laterD, laterR]); (repeat (first | simp -implicitDefEqProofs only [go_sem, ↓reduceIte, Nat.reduceEqDiff, Nat.reduceAdd, Nat.reduceLeDiff, Nat.reduceLT, Nat.reduceMul, reduceCtorEq, Int.reduceEq, Int.reduceLT, Int.reduceLE, Int.reduceNeg, Int.reduceToNat, Int.reduceMul, Int.reduceAdd, Int.reduceSub] | simp (disch := (first | omega | (simp only [go_sem]; done) | (simp only [lens]; omega))) only [cds])))
  · rintro ⟨done, rest⟩ ⟨t, d⟩ h' ⟨rb, H, hk, h1, h2, h3, h4, h5, hd', t0, t1, t5⟩
    simp only at hd' t0 t1 t5 H h1 h2 h3 h5; subst hd'
    simp only
    have hm' := hk _ _ hm
    ((try simp -implicitDefEqProofs only [later, laterE, laterD, laterR]); (repeat (first | simp -implicitDefEqProofs only [go_sem, ↓reduceIte, Nat.reduceEqDiff, Nat.reduceAdd, Nat.reduceLeDiff, Nat.reduceLT, Nat.reduceMul, reduceCtorEq, Int.reduceEq, Int.reduceLT, Int.reduceLE, Int.reduceNeg, Int.reduceToNat, Int.reduceMul, Int.reduceAdd, Int.reduceSub, t0, t1, t5, hm', h3] | simp (disch := (first | omega | (simp only [go_sem]; done) | (simp only [lens]; omega))) only [cds, t0, t1, t5, hm', h3])))
    refine goNXM_half H (fun hr => ?_) (fun e r1 r2 hr he H' => ?_)
    · have hp := H.perm
      rw [hr, List.append_nil] at hp
      have hlen : done.length = es.length := hp.length_eq
      ((try simp -implicitDefEqProofs only [later, laterE, laterD, laterR]); (repeat (first | simp -implicitDefEqProofs only [go_sem, ↓reduceIte, Nat.reduceEqDiff, Nat.reduceAdd, Nat.reduceLeDiff, Nat.reduceLT, Nat.reduceMul, reduceCtorEq, Int.reduceEq, Int.reduceLT, Int.reduceLE, Int.reduceNeg, Int.reduceToNat, Int.reduceMul, Int.reduceAdd, Int.reduceSub, t0, t1, t5] | simp (disch := (first | omega | (simp only [go_sem]; done) | (simp only [lens]; omega))) only [cds, t0, t1, t5])))
      refine ⟨_, Sub.refl, ?_⟩
      have nsb := Ne.symm hlb.1
      rw [hlen] at h1
      ((try simp -implicitDefEqProofs only [later, laterE, laterD, laterR]); (repeat (first | simp -implicitDefEqProofs only [go_sem, ↓reduceIte, Nat.reduceEqDiff, Nat.reduceAdd, Nat.reduceLeDiff, Nat.reduceLT, Nat.reduceMul, reduceCtorEq, Int.reduceEq, Int.reduceLT, Int.reduceLE, Int.reduceNeg, Int.reduceToNat, Int.reduceMul, Int.reduceAdd, Int.reduceSub, h2, hT2, h1, rt_slOf] | simp (disch := (first | omega | (simp only [go_sem]; done) | (simp only [lens]; omega))) only [cds, h2, hT2, h1, rt_slOf])))
      refine ⟨withRow h rb (keysOf done), ?_, hq rb done h4 hp⟩
      intro c o hc
      have nlb : c ≠ lb := fun e => by
        subst e
        unfold withRow at hc
        split at hc
        · rw [hlb.2] at hc; cases hc
        · rename_i hz
          rw [keysOf_size] at hz
          rw [hadd_ne' (Ne.symm (h5 hz).2.2.1), hlb.2] at hc; cases hc
      rw [hset_ne' nlb]
      unfold withRow at hc
      split at hc
      · exact hk c o hc
      · rename_i hz
        rw [keysOf_size] at hz
        by_cases e : c = rb
        · subst e; rw [hadd_same] at hc; rw [(h5 hz).1]; exact hc
        · rw [hadd_ne' e] at hc; exact hk c o hc
    · obtain ⟨k, v, n⟩ := e
      have hfb := findBorn_mem R.born he
      simp only at hfb
      obtain ⟨nm, rfl⟩ : ∃ s, k = V.str s := by
        have h1 : (k, v) ∈ es.map (fun e => (e.1, e.2.1)) := List.mem_map.2 ⟨_, he, rfl⟩
        rw [R.eq] at h1
        obtain ⟨q, _, e⟩ := List.mem_map.1 h1
        simp only [Prod.mk.injEq] at e
        exact ⟨q.1, e.1.symm⟩
      have hdl : done.length + 1 ≤ es.length := by
        have := H.perm.length_eq; rw [hr] at this; simp at this; omega
      have nmit := ne_fresh hm hit.2.2
      have q1 := hit.1
      have q2 := hit.2.1
      have q3 := hlb.1
      ((try simp -implicitDefEqProofs only [later, laterE, laterD, laterR]); (repeat (first | simp -implicitDefEqProofs only [go_sem, ↓reduceIte, Nat.reduceEqDiff, Nat.reduceAdd, Nat.reduceLeDiff, Nat.reduceLT, Nat.reduceMul, reduceCtorEq, Int.reduceEq, Int.reduceLT, Int.reduceLE, Int.reduceNeg, Int.reduceToNat, Int.reduceMul, Int.reduceAdd, Int.reduceSub, t0, t1, t5, hm', h3, hfb] | simp (disch := (first | omega | (simp only [go_sem]; done) | (simp only [lens]; omega))) only [cds, t0, t1, t5, hm', h3, hfb])))
      refine AC.round (t := T) (by rw [hadd_ne' (Ne.symm q1)]; exact h2) rfl ?_
      cases hz : done.length with
      | zero =>
        rw [hz] at h1
        ((try simp -implicitDefEqProofs only [later, laterE, laterD, laterR]); (repeat (first | simp -implicitDefEqProofs only [go_sem, ↓reduceIte, Nat.reduceEqDiff, Nat.reduceAdd, Nat.reduceLeDiff, Nat.reduceLT, Nat.reduceMul, reduceCtorEq, Int.reduceEq, Int.reduceLT, Int.reduceLE, Int.reduceNeg, Int.reduceToNat, Int.reduceMul, Int.reduceAdd, Int.reduceSub, hT2, h1, h2, slOf] | simp (disch := (first | omega | (simp only [go_sem]; done) | (simp only [lens]; omega))) only [cds, hT2, h1, h2, slOf])))
        intro tb htb
        rw [hadd_none, hadd_none] at htb
        have f1 := ne_fresh h1 htb.2.2
        ((try simp -implicitDefEqProofs only [later, laterE, laterD, laterR]); (repeat (first | simp -implicitDefEqProofs only [go_sem, ↓reduceIte, Nat.reduceEqDiff, Nat.reduceAdd, Nat.reduceLeDiff, Nat.reduceLT, Nat.reduceMul, reduceCtorEq, Int.reduceEq, Int.reduceLT, Int.reduceLE, Int.reduceNeg, Int.reduceToNat, Int.reduceMul, Int.reduceAdd, Int.reduceSub] | simp (disch := (first | omega | (simp only [go_sem]; done) | (simp only [lens]; omega))) only [cds])))
        intro rb' hrb'
        rw [hadd_none, hadd_none, hadd_none] at hrb'
        have f2 := ne_fresh h1 hrb'.2.2.2
        have f3 := hrb'.1
        have f4 := hrb'.2.1
        have f5 := hrb'.2.2.1
        have f6 := htb.1
        have f7 := htb.2.1
        ((try simp -implicitDefEqProofs only [later, laterE, laterD, laterR]); (repeat (first | simp -implicitDefEqProofs only [go_sem, ↓reduceIte, Nat.reduceEqDiff, Nat.reduceAdd, Nat.reduceLeDiff, Nat.reduceLT, Nat.reduceMul, reduceCtorEq, Int.reduceEq, Int.reduceLT, Int.reduceLE, Int.reduceNeg, Int.reduceToNat, Int.reduceMul, Int.reduceAdd, Int.reduceSub, hT2, h1, h2] | simp (disch := (first | omega | (simp only [go_sem]; done) | (simp only [lens]; omega))) only [cds, hT2, h1, h2])))
        refine ⟨_, Sub.refl, ?_⟩
        ((try simp -implicitDefEqProofs only [later, laterE, laterD, laterR]); (repeat (first | simp -implicitDefEqProofs only [go_sem, ↓reduceIte, Nat.reduceEqDiff, Nat.reduceAdd, Nat.reduceLeDiff, Nat.reduceLT, Nat.reduceMul, reduceCtorEq, Int.reduceEq, Int.reduceLT, Int.reduceLE, Int.reduceNeg, Int.reduceToNat, Int.reduceMul, Int.reduceAdd, Int.reduceSub, hT2, h1, h2] | simp (disch := (first | omega | (simp only [go_sem]; done) | (simp only [lens]; omega))) only [cds, hT2, h1, h2])))
        refine ⟨(done ++ [(.str nm, v, n)], r1 ++ r2), ?_⟩
        have hrest : rest.length = r1.length + (r2.length + 1) := by rw [hr]; simp
        ((try simp -implicitDefEqProofs only [later, laterE, laterD, laterR]); (repeat (first | simp -implicitDefEqProofs only [go_sem, ↓reduceIte, Nat.reduceEqDiff, Nat.reduceAdd, Nat.reduceLeDiff, Nat.reduceLT, Nat.reduceMul, reduceCtorEq, Int.reduceEq, Int.reduceLT, Int.reduceLE, Int.reduceNeg, Int.reduceToNat, Int.reduceMul, Int.reduceAdd, Int.reduceSub, hT2, h1, h2, t0, t1, t5] | simp (disch := (first | omega | (simp only [go_sem]; done) | (simp only [lens]; omega))) only [cds, hT2, h1, h2, t0, t1, t5])))
        refine ⟨by rw [List.length_append]; omega, rb', ?_⟩
        have ed : done = [] := List.length_eq_zero_iff.1 hz
        refine ⟨by simpa using H', fun c o hc => ?_, ?_, ?_, ?_, fun _ => ⟨?_, f2.symm, f4, f5⟩⟩
        · have hc' := hk c o hc
          rw [hadd_ne' (ne_fresh hc hlb.2), hadd_ne' (ne_fresh hc hsb), hadd_ne' (ne_fresh hc' hrb'.2.2.2), hadd_ne' (ne_fresh hc' htb.2.2), hadd_ne' (ne_fresh hc hlb.2), hadd_ne' (ne_fresh hc hit.2.2)]; exact hc'
        · simp [hz]
        · simp
        · exact Sub.none hk hrb'.2.2.2
        · rw [hadd_ne' f4, hadd_ne' f2.symm, hadd_same, ed]; rfl
      | succ k =>
        obtain ⟨g1, g2, g3, g4⟩ := h5 (by omega)
        have hsl : slOf rb (k + 1) = .sl rb 0 1 (k + 1) := by unfold slOf; rw [if_neg (by omega)]
        rw [hz, hsl] at h1
        have hrl : (rowV (keysOf done)).length = k + 1 := by rw [rowV_len, keysOf_size, hz]
        have htk : (rowV (keysOf done)).take (k + 1) = rowV (keysOf done) := by rw [List.take_of_length_le (by omega)]
        ((try simp -implicitDefEqProofs only [later, laterE, laterD, laterR]); (repeat (first | simp -implicitDefEqProofs only [go_sem, ↓reduceIte, Nat.reduceEqDiff, Nat.reduceAdd, Nat.reduceLeDiff, Nat.reduceLT, Nat.reduceMul, reduceCtorEq, Int.reduceEq, Int.reduceLT, Int.reduceLE, Int.reduceNeg, Int.reduceToNat, Int.reduceMul, Int.reduceAdd, Int.reduceSub, hT2, h1, h2] | simp (disch := (first | omega | (simp only [go_sem]; done) | (simp only [lens]; omega))) only [cds, hT2, h1, h2])))
        intro tb htb
        rw [hadd_none, hadd_none] at htb
        have f1 := ne_fresh h1 htb.2.2
        have f8 := ne_fresh g1 htb.2.2
        have fp : rowO (keysOf done) = .cells (rowV (keysOf done)) false := rfl
        ((try simp -implicitDefEqProofs only [later, laterE, laterD, laterR]); (repeat (first | simp -implicitDefEqProofs only [go_sem, ↓reduceIte, Nat.reduceEqDiff, Nat.reduceAdd, Nat.reduceLeDiff, Nat.reduceLT, Nat.reduceMul, reduceCtorEq, Int.reduceEq, Int.reduceLT, Int.reduceLE, Int.reduceNeg, Int.reduceToNat, Int.reduceMul, Int.reduceAdd, Int.reduceSub, g1, fp] | simp (disch := (first | omega | (simp only [go_sem]; done) | (simp only [lens]; omega))) only [cds, g1, fp])))
        intro rb' hne hrb'
        rw [hadd_none, hadd_none, hadd_none] at hrb'
        have f2 := ne_fresh h1 hrb'.2.2.2
        have f3 := hrb'.1
        have f4 := hrb'.2.1
        have f5 := hrb'.2.2.1
        have f6 := htb.1
        have f7 := htb.2.1
        ((try simp -implicitDefEqProofs only [later, laterE, laterD, laterR]); (repeat (first | simp -implicitDefEqProofs only [go_sem, ↓reduceIte, Nat.reduceEqDiff, Nat.reduceAdd, Nat.reduceLeDiff, Nat.reduceLT, Nat.reduceMul, reduceCtorEq, Int.reduceEq, Int.reduceLT, Int.reduceLE, Int.reduceNeg, Int.reduceToNat, Int.reduceMul, Int.reduceAdd, Int.reduceSub, hT2, h1, h2, htk] | simp (disch := (first | omega | (simp only [go_sem]; done) | (simp only [lens]; omega))) only [cds, hT2, h1, h2, htk])))
        refine ⟨_, Sub.refl, ?_⟩
        ((try simp -implicitDefEqProofs only [later, laterE, laterD, laterR]); (repeat (first | simp -implicitDefEqProofs only [go_sem, ↓reduceIte, Nat.reduceEqDiff, Nat.reduceAdd, Nat.reduceLeDiff, Nat.reduceLT, Nat.reduceMul, reduceCtorEq, Int.reduceEq, Int.reduceLT, Int.reduceLE, Int.reduceNeg, Int.reduceToNat, Int.reduceMul, Int.reduceAdd, Int.reduceSub, hT2, h1, h2, htk] | simp (disch := (first | omega | (simp only [go_sem]; done) | (simp only [lens]; omega))) only [cds, hT2, h1, h2, htk])))
        refine ⟨(done ++ [(.str nm, v, n)], r1 ++ r2), ?_⟩
        have hrest : rest.length = r1.length + (r2.length + 1) := by rw [hr]; simp
        ((try simp -implicitDefEqProofs only [later, laterE, laterD, laterR]); (repeat (first | simp -implicitDefEqProofs only [go_sem, ↓reduceIte, Nat.reduceEqDiff, Nat.reduceAdd, Nat.reduceLeDiff, Nat.reduceLT, Nat.reduceMul, reduceCtorEq, Int.reduceEq, Int.reduceLT, Int.reduceLE, Int.reduceNeg, Int.reduceToNat, Int.reduceMul, Int.reduceAdd, Int.reduceSub, hT2, h1, h2, t0, t1, t5] | simp (disch := (first | omega | (simp only [go_sem]; done) | (simp only [lens]; omega))) only [cds, hT2, h1, h2, t0, t1, t5])))
        refine ⟨by rw [List.length_append]; omega, rb', ?_⟩
        refine ⟨by simpa using H', fun c o hc => ?_, ?_, ?_, ?_, fun _ => ⟨?_, f2.symm, f4, f5⟩⟩
        · have hc' := hk c o hc
          rw [hadd_ne' (ne_fresh hc hlb.2), hadd_ne' (ne_fresh hc hsb), hadd_ne' (ne_fresh hc' hrb'.2.2.2), hset_ne' (ne_fresh hc h4), hadd_ne' (ne_fresh hc' htb.2.2), hadd_ne' (ne_fresh hc hlb.2), hadd_ne' (ne_fresh hc hit.2.2)]; exact hc'
        · simp [hz, slOf]
        · simp
        · exact Sub.none hk hrb'.2.2.2
        · rw [hadd_ne' f4, hadd_ne' f2.symm, hadd_same, keysOf_snoc, rowO, rowV_push]
theorem keys_ac {m : Nat} (hq : ∀ bx, h bx = none → Q (.fn 42 [] [.ptr bx 0]) (hadd h bx (.cells [.map m] false))) : AC pg (.fn 23) [.map m] h Q := by
  refine AC.fn' (g := g23) rfl (by simp only [List.length_cons, List.length_nil, g23]; decide) ?_; simp only [g23]
  ((try simp -implicitDefEqProofs only [later, laterE, laterD, laterR]); (repeat (first | simp -implicitDefEqProofs only [go_sem, ↓reduceIte, Nat.reduceEqDiff, Nat.reduceAdd, Nat.reduceLeDiff, Nat.reduceLT, Nat.reduceMul, reduceCtorEq, Int.reduceEq, Int.reduceLT, Int.reduceLE, Int.reduceNeg, Int.reduceToNat, Int.reduceMul, Int.reduceAdd, Int.reduceSub] | simp (disch := (first | omega | (simp only [go_sem]; done) | (simp only [lens]; omega))) only [cds])))
  intro bx hb
  ((try simp -implicitDefEqProofs only [later, laterE, laterD, laterR]); (repeat (first | simp -implicitDefEqProofs only [go_sem, ↓reduceIte, Nat.reduceEqDiff, Nat.reduceAdd, Nat.reduceLeDiff, Nat.reduceLT, Nat.reduceMul, reduceCtorEq, Int.reduceEq, Int.reduceLT, Int.reduceLE, Int.reduceNeg, Int.reduceToNat, Int.reduceMul, Int.reduceAdd, Int.reduceSub] | simp (disch := (first | omega | (simp only [go_sem]; done) | (simp only [lens]; omega))) only [cds])))
  exact ⟨_, Sub.refl, hq bx hb⟩
theorem sort_nil_ac (hq : Q (.tup []) h) : AC pg (.fn 41) [.nilsl] h Q := by
  refine AC.fn' (g := g41) rfl (by simp only [List.length_cons, List.length_nil, g41]; decide) ?_; simp only [g41]
  ((try simp -implicitDefEqProofs only [later, laterE, laterD, laterR]); (repeat (first | simp -implicitDefEqProofs only [go_sem, ↓reduceIte, Nat.reduceEqDiff, Nat.reduceAdd, Nat.reduceLeDiff, Nat.reduceLT, Nat.reduceMul, reduceCtorEq, Int.reduceEq, Int.reduceLT, Int.reduceLE, Int.reduceNeg, Int.reduceToNat, Int.reduceMul, Int.reduceAdd, Int.reduceSub] | simp (disch := (first | omega | (simp only [go_sem]; done) | (simp only [lens]; omega))) only [cds])))
  refine len_nat 0 (by omega) ?_
  ((try simp -implicitDefEqProofs only [later, laterE, laterD, laterR]); (repeat (first | simp -implicitDefEqProofs only [go_sem, ↓reduceIte, Nat.reduceEqDiff, Nat.reduceAdd, Nat.reduceLeDiff, Nat.reduceLT, Nat.reduceMul, reduceCtorEq, Int.reduceEq, Int.reduceLT, Int.reduceLE, Int.reduceNeg, Int.reduceToNat, Int.reduceMul, Int.reduceAdd, Int.reduceSub] | simp (disch := (first | omega | (simp only [go_sem]; done) | (simp only [lens]; omega))) only [cds])))
  refine AC.fn' (g := g55) rfl (by simp only [List.length_cons, List.length_nil, g55]; decide) ?_; simp only [g55]
  ((try simp -implicitDefEqProofs only [later, laterE, laterD, laterR]); (repeat (first | simp -implicitDefEqProofs only [go_sem, ↓reduceIte, Nat.reduceEqDiff, Nat.reduceAdd, Nat.reduceLeDiff, Nat.reduceLT, Nat.reduceMul, reduceCtorEq, Int.reduceEq, Int.reduceLT, Int.reduceLE, Int.reduceNeg, Int.reduceToNat, Int.reduceMul, Int.reduceAdd, Int.reduceSub] | simp (disch := (first | omega | (simp only [go_sem]; done) | (simp only [lens]; omega))) only [cds])))
  refine E.loopX AC.mono (fun (x : Unit) a' h' => h' = h ∧ a'.d = [] ∧ a'.t 0 = .nilsl ∧ a'.t 1 = .int .i64 0 ∧ a'.t 2 = .int .i64 0) (fun _ => 0) () ?_ ?_
  · refine ⟨rfl, ?_⟩
    ((try simp -implicitDefEqProofs only [later, laterE, laterD, laterR]); (repeat (first | simp -implicitDefEqProofs only [go_sem, ↓reduceIte, Nat.reduceEqDiff, Nat.reduceAdd, Nat.reduceLeDiff, Nat.reduceLT, Nat.reduceMul, reduceCtorEq, Int.reduceEq, Int.reduceLT, Int.reduceLE, Int.reduceNeg, Int.reduceToNat, Int.reduceMul, Int.reduceAdd, Int.reduceSub] | simp (disch := (first | omega | (simp only [go_sem]; done) | (simp only [lens]; omega))) only [cds])))
  · rintro _ ⟨t, ds⟩ h' ⟨rfl, hd, t0, t1, t2⟩
    simp only at hd t0 t1 t2; subst hd
    ((try simp -implicitDefEqProofs only [later, laterE, laterD, laterR]); (repeat (first | simp -implicitDefEqProofs only [go_sem, ↓reduceIte, Nat.reduceEqDiff, Nat.reduceAdd, Nat.reduceLeDiff, Nat.reduceLT, Nat.reduceMul, reduceCtorEq, Int.reduceEq, Int.reduceLT, Int.reduceLE, Int.reduceNeg, Int.reduceToNat, Int.reduceMul, Int.reduceAdd, Int.reduceSub, t0, t1, t2] | simp (disch := (first | omega | (simp only [go_sem]; done) | (simp only [lens]; omega))) only [cds, t0, t1, t2])))
    refine AC.fn' (g := g65) rfl (by simp only [List.length_cons, List.length_nil, g65]; decide) ?_; simp only [g65]
    ((try simp -implicitDefEqProofs only [later, laterE, laterD, laterR]); (repeat (first | simp -implicitDefEqProofs only [go_sem, ↓reduceIte, Nat.reduceEqDiff, Nat.reduceAdd, Nat.reduceLeDiff, Nat.reduceLT, Nat.reduceMul, reduceCtorEq, Int.reduceEq, Int.reduceLT, Int.reduceLE, Int.reduceNeg, Int.reduceToNat, Int.reduceMul, Int.reduceAdd, Int.reduceSub] | simp (disch := (first | omega | (simp only [go_sem]; done) | (simp only [lens]; omega))) only [cds])))
    refine E.loopX AC.mono (fun (x : Unit) a' h'' => h'' = h' ∧ a'.d = [] ∧ a'.t 2 = .int .i64 0 ∧ a'.t 6 = .int .i64 1) (fun _ => 0) () ?_ ?_
    · refine ⟨rfl, ?_⟩
      ((try simp -implicitDefEqProofs only [later, laterE, laterD, laterR]); (repeat (first | simp -implicitDefEqProofs only [go_sem, ↓reduceIte, Nat.reduceEqDiff, Nat.reduceAdd, Nat.reduceLeDiff, Nat.reduceLT, Nat.reduceMul, reduceCtorEq, Int.reduceEq, Int.reduceLT, Int.reduceLE, Int.reduceNeg, Int.reduceToNat, Int.reduceMul, Int.reduceAdd, Int.reduceSub] | simp (disch := (first | omega | (simp only [go_sem]; done) | (simp only [lens]; omega))) only [cds])))
    · rintro _ ⟨t, ds⟩ h'' ⟨rfl, hd, t2, t6⟩
      simp only at hd t2 t6; subst hd
      ((try simp -implicitDefEqProofs only [later, laterE, laterD, laterR]); (repeat (first | simp -implicitDefEqProofs only [go_sem, ↓reduceIte, Nat.reduceEqDiff, Nat.reduceAdd, Nat.reduceLeDiff, Nat.reduceLT, Nat.reduceMul, reduceCtorEq, Int.reduceEq, Int.reduceLT, Int.reduceLE, Int.reduceNeg, Int.reduceToNat, Int.reduceMul, Int.reduceAdd, Int.reduceSub, t2, t6] | simp (disch := (first | omega | (simp only [go_sem]; done) | (simp only [lens]; omega))) only [cds, t2, t6])))
      refine ⟨_, Sub.refl, ?_⟩
      ((try simp -implicitDefEqProofs only [later, laterE, laterD, laterR]); (repeat (first | simp -implicitDefEqProofs only [go_sem, ↓reduceIte, Nat.reduceEqDiff, Nat.reduceAdd, Nat.reduceLeDiff, Nat.reduceLT, Nat.reduceMul, reduceCtorEq, Int.reduceEq, Int.reduceLT, Int.reduceLE, Int.reduceNeg, Int.reduceToNat, Int.reduceMul, Int.reduceAdd, Int.reduceSub] | simp (disch := (first | omega | (simp only [go_sem]; done) | (simp only [lens]; omega))) only [cds])))
      refine ⟨_, Sub.refl, ?_⟩
      ((try simp -implicitDefEqProofs only [later, laterE, laterD, laterR]); (repeat (first | simp -implicitDefEqProofs only [go_sem, ↓reduceIte, Nat.reduceEqDiff, Nat.reduceAdd, Nat.reduceLeDiff, Nat.reduceLT, Nat.reduceMul, reduceCtorEq, Int.reduceEq, Int.reduceLT, Int.reduceLE, Int.reduceNeg, Int.reduceToNat, Int.reduceMul, Int.reduceAdd, Int.reduceSub] | simp (disch := (first | omega | (simp only [go_sem]; done) | (simp only [lens]; omega))) only [cds])))
      exact ⟨_, Sub.refl, hq⟩
theorem mergeSort_perm' {l l' : List (List UInt8)} (h : l.Perm l') : l.mergeSort (fun x y => decide (x ≤ y)) = l'.mergeSort (fun x y => decide (x ≤ y)) := by
  have tr : ∀ a b c : List UInt8, (fun x y : List UInt8 => decide (x ≤ y)) a b = true → (fun x y : List UInt8 => decide (x ≤ y)) b c = true → (fun x y : List UInt8 => decide (x ≤ y)) a c = true := fun a b c h1 h2 => by simp only [decide_eq_true_eq] at *; exact List.le_trans h1 h2
  have to : ∀ a b : List UInt8, ((fun x y : List UInt8 => decide (x ≤ y)) a b || (fun x y : List UInt8 => decide (x ≤ y)) b a) = true := fun a b => by simp only [Bool.or_eq_true, decide_eq_true_eq]; exact List.le_total a b
  refine List.Perm.eq_of_pairwise (le := fun a b => (fun x y : List UInt8 => decide (x ≤ y)) a b = true) (fun a b _ _ h1 h2 => ?_) (List.pairwise_mergeSort tr to l) (List.pairwise_mergeSort tr to l') (((List.mergeSort_perm l _).trans h).trans (List.mergeSort_perm l' _).symm)
  simp only [decide_eq_true_eq] at h1 h2
  exact List.le_antisymm h1 h2
theorem keysOf_perm {es done : Ents} {ck : Nat} {l : List (Txt × V)} (R : Rep es ck l) (hp : done.Perm es) : (keysOf done).toList.Perm (l.map (·.1)) := by
  have h1 : (keysOf done).toList = done.map fun e => match e.1 with | .str s => s | _ => [] := by simp [keysOf]
  have h2 : l.map (·.1) = (l.map fun p => (V.str p.1, p.2)).map fun q => match q.1 with | .str s => s | _ => [] := by
    rw [List.map_map]; rfl
  rw [h1, h2, ← R.eq, List.map_map]
  exact hp.map _
/-- A map's keys, rising. -/
theorem sorted_ac {es : Ents} {ck m bx : Nat} (hbx : h bx = some (.cells [.map m] false)) (hm : h m = some (.map es ck)) {l : List (Txt × V)} (R : Rep es ck l) (hl : es.length ≤ 12)
    (hq : ∀ rb, h rb = none → Q (slOf rb l.length) (withRow h rb ((l.map (·.1)).mergeSort (fun x y => decide (x ≤ y))).toArray)) :
    AC pg (.fn 22) [.fn 42 [] [.ptr bx 0]] h Q := by
  refine AC.fn' (g := g22) rfl (by simp only [List.length_cons, List.length_nil, g22]; decide) ?_; simp only [g22]
  ((try simp -implicitDefEqProofs only [later, laterE, laterD, laterR]); (repeat (first | simp -implicitDefEqProofs only [go_sem, ↓reduceIte, Nat.reduceEqDiff, Nat.reduceAdd, Nat.reduceLeDiff, Nat.reduceLT, Nat.reduceMul, reduceCtorEq, Int.reduceEq, Int.reduceLT, Int.reduceLE, Int.reduceNeg, Int.reduceToNat, Int.reduceMul, Int.reduceAdd, Int.reduceSub] | simp (disch := (first | omega | (simp only [go_sem]; done) | (simp only [lens]; omega))) only [cds])))
  refine AC.fn' (g := g40) rfl (by simp only [List.length_cons, List.length_nil, g40]; decide) ?_; simp only [g40]
  ((try simp -implicitDefEqProofs only [later, laterE, laterD, laterR]); (repeat (first | simp -implicitDefEqProofs only [go_sem, ↓reduceIte, Nat.reduceEqDiff, Nat.reduceAdd, Nat.reduceLeDiff, Nat.reduceLT, Nat.reduceMul, reduceCtorEq, Int.reduceEq, Int.reduceLT, Int.reduceLE, Int.reduceNeg, Int.reduceToNat, Int.reduceMul, Int.reduceAdd, Int.reduceSub] | simp (disch := (first | omega | (simp only [go_sem]; done) | (simp only [lens]; omega))) only [cds])))
  refine collect_ac hbx hm R (by omega) fun rb done hrb hp => ?_
  ((try simp -implicitDefEqProofs only [later, laterE, laterD, laterR]); (repeat (first | simp -implicitDefEqProofs only [go_sem, ↓reduceIte, Nat.reduceEqDiff, Nat.reduceAdd, Nat.reduceLeDiff, Nat.reduceLT, Nat.reduceMul, reduceCtorEq, Int.reduceEq, Int.reduceLT, Int.reduceLE, Int.reduceNeg, Int.reduceToNat, Int.reduceMul, Int.reduceAdd, Int.reduceSub, rt_slOf] | simp (disch := (first | omega | (simp only [go_sem]; done) | (simp only [lens]; omega))) only [cds, rt_slOf])))
  refine ⟨_, Sub.refl, ?_⟩
  ((try simp -implicitDefEqProofs only [later, laterE, laterD, laterR]); (repeat (first | simp -implicitDefEqProofs only [go_sem, ↓reduceIte, Nat.reduceEqDiff, Nat.reduceAdd, Nat.reduceLeDiff, Nat.reduceLT, Nat.reduceMul, reduceCtorEq, Int.reduceEq, Int.reduceLT, Int.reduceLE, Int.reduceNeg, Int.reduceToNat, Int.reduceMul, Int.reduceAdd, Int.reduceSub] | simp (disch := (first | omega | (simp only [go_sem]; done) | (simp only [lens]; omega))) only [cds])))
  have hle : es.length = l.length := R.len
  have hds : (keysOf done).size = es.length := by rw [keysOf_size, hp.length_eq]
  have hms := mergeSort_perm' (keysOf_perm R hp)
  have hq' := hq rb hrb
  rw [← hle] at hq'
  by_cases hz : es.length = 0
  · have e1 : slOf rb es.length = .nilsl := by unfold slOf; rw [if_pos hz]
    have e2 : ∀ d : Txts, d.size = 0 → withRow h rb d = h := fun d hd => by unfold withRow; rw [if_pos hd]
    rw [e2 _ (by rw [List.size_toArray, List.length_mergeSort, List.length_map]; omega), e1] at hq'
    rw [e2 _ (by omega), e1]
    refine sort_nil_ac ?_
    ((try simp -implicitDefEqProofs only [later, laterE, laterD, laterR]); (repeat (first | simp -implicitDefEqProofs only [go_sem, ↓reduceIte, Nat.reduceEqDiff, Nat.reduceAdd, Nat.reduceLeDiff, Nat.reduceLT, Nat.reduceMul, reduceCtorEq, Int.reduceEq, Int.reduceLT, Int.reduceLE, Int.reduceNeg, Int.reduceToNat, Int.reduceMul, Int.reduceAdd, Int.reduceSub] | simp (disch := (first | omega | (simp only [go_sem]; done) | (simp only [lens]; omega))) only [cds])))
    exact ⟨_, Sub.refl, hq'⟩
  · have e1 : slOf rb es.length = .sl rb 0 1 es.length := by unfold slOf; rw [if_neg hz]
    have e2 : ∀ d : Txts, d.size ≠ 0 → withRow h rb d = hadd h rb (rowO d) := fun d hd => by unfold withRow; rw [if_neg hd]
    rw [e2 _ (by rw [List.size_toArray, List.length_mergeSort, List.length_map]; omega), e1, ← hms] at hq'
    rw [e2 _ (by omega), e1]
    refine sort_ac hadd_same hds (by omega) ?_
    ((try simp -implicitDefEqProofs only [later, laterE, laterD, laterR]); (repeat (first | simp -implicitDefEqProofs only [go_sem, ↓reduceIte, Nat.reduceEqDiff, Nat.reduceAdd, Nat.reduceLeDiff, Nat.reduceLT, Nat.reduceMul, reduceCtorEq, Int.reduceEq, Int.reduceLT, Int.reduceLE, Int.reduceNeg, Int.reduceToNat, Int.reduceMul, Int.reduceAdd, Int.reduceSub] | simp (disch := (first | omega | (simp only [go_sem]; done) | (simp only [lens]; omega))) only [cds])))
    exact ⟨_, Sub.refl, hq'⟩
end Go.Proofs.YtijipnkdabdioabGreatDoor
