/- The mirror, part 5: operations on the temporaries alone, the rest. -/
import Derived.Test.YtijipnkdabdioaaMir4
import Derived.Laws.StructEq
import Derived.Laws.Slices
set_option linter.unusedSimpArgs false
set_option linter.unusedVariables false
namespace Mir
open Go
variable {P : Program} {μ : Mu} {w : World}

theorem eqOf_spec {t : TypeId} {c : EqC} (h : eqOf P t = some c) : EqT P t c ∧ ∃ d, P.underlying t = some d ∧ (∀ fs, d ≠ .struct fs) ∧ (∀ k e, d ≠ .array k e) := by
  unfold eqOf at h
  split at h <;> cases h
  · rename_i e; exact ⟨e, _, e, by simp, by simp⟩
  · rename_i k e; exact ⟨⟨_, e⟩, _, e, by simp, by simp⟩
  · rename_i e; exact ⟨e, _, e, by simp, by simp⟩

theorem run_isAgg_false {t : TypeId} {d : TypeDesc} (h : P.underlying t = some d) (h1 : ∀ fs, d ≠ .struct fs) (h2 : ∀ k e, d ≠ .array k e) : (isAgg t).run P w = .ok false w := by
  simp only [isAgg, Sem.run_bind, run_und h, Result.andThen_ok]
  cases d with
  | struct fs => exact absurd rfl (h1 fs)
  | array k e => exact absurd rfl (h2 k e)
  | _ => rfl
theorem run_isAgg {t : TypeId} {n : Nat} {g : Bool} (h : szA P t = some (n, g)) : (isAgg t).run P w = .ok g w := by
  unfold szA at h
  cases hs : szOf P t with
  | none => simp [hs] at h
  | some s =>
    cases hu : P.underlying t with
    | none => simp [hs, hu] at h
    | some d =>
      cases d <;> simp [hs, hu] at h <;> obtain ⟨rfl, rfl⟩ := h <;> simp [isAgg, run_und hu]
theorem szA_size {t : TypeId} {n : Nat} {g : Bool} (h : szA P t = some (n, g)) : szOf P t = some n := by
  unfold szA at h
  split at h <;> cases h <;> assumption

theorem evEqs_sound (n : Nat) : ∀ (fs : List Field) (i : Nat) (cs : List EqC) (xs ys : List V) (dx dy : List Value) (b : Bool),
    eqsOf P fs i = some cs → VRs μ xs (dx.drop i) → VRs μ ys (dy.drop i) → evEqs cs xs ys = some b →
    (Op.eqFields (n + 1) dx.toArray dy.toArray fs).run P w = .ok b w := by
  intro fs
  induction fs with
  | nil =>
    intro i cs xs ys dx dy b hc hx hy he
    simp only [eqsOf] at hc
    cases hc
    cases xs <;> cases ys <;> simp only [evEqs] at he <;> cases he
    simp [Op.eqFields]
  | cons f fs ih =>
    intro i cs xs ys dx dy b hc hx hy he
    simp only [eqsOf] at hc
    split at hc
    · rename_i hf
      split at hc
      · rename_i c cs' h1 h2
        cases hc
        cases xs with
        | nil => simp [evEqs] at he
        | cons x xs =>
          cases ys with
          | nil => simp [evEqs] at he
          | cons y ys =>
            obtain ⟨hT, d, hd, hn1, hn2⟩ := eqOf_spec h1
            have gx := hx.get (i := 0) (a := x) (by simp)
            have gy := hy.get (i := 0) (a := y) (by simp)
            obtain ⟨vx, ex, rx⟩ := gx
            obtain ⟨vy, ey, ry⟩ := gy
            simp at ex ey
            have tx : VRs μ xs (dx.drop (i + 1)) := by simpa using hx.drop 1
            have ty : VRs μ ys (dy.drop (i + 1)) := by simpa using hy.drop 1
            have px : (part f.type dx.toArray f.offset).run P w = .ok vx w := by simp [part, run_isAgg_false hd hn1 hn2, hf.2, ex]
            have py : (part f.type dy.toArray f.offset).run P w = .ok vy w := by simp [part, run_isAgg_false hd hn1 hn2, hf.2, ey]
            simp only [evEqs] at he
            simp only [Op.eqFields, ne_eq, hf.1, not_false_eq_true, if_true, Sem.run_bind, px, py, Result.andThen_ok]
            cases hc1 : evEq c x y with
            | none => simp [hc1] at he
            | some r =>
              rw [evEq_sound hT rx ry hc1]
              cases r
              · simp [hc1] at he; subst he; simp
              · simp [hc1] at he; simpa using ih (i + 1) cs' xs ys dx dy b h2 tx ty he
      · cases hc
    · cases hc

theorem structEq_sound {t : TypeId} {cs : List EqC} {xs ys : List V} {dx dy : Value} {b : Bool} (hs : structEq P t = some cs) (hx : VR μ (.agg xs) dx) (hy : VR μ (.agg ys) dy)
    (he : evEqs cs xs ys = some b) (n : Nat) : (Op.equalIn (n + 2) t dx dy).run P w = .ok b w := by
  obtain ⟨ds, rfl, h1⟩ := hx.agg_inv
  obtain ⟨es, rfl, h2⟩ := hy.agg_inv
  unfold structEq at hs
  split at hs
  · rename_i fs hu
    split at hs
    · rename_i hc
      have hf : P.fieldsOf t = fs := by simp [Program.fieldsOf, hu]
      rw [run_equalIn_struct w (n + 1) t _ _ (by rw [hf]; exact hu) hc.1, hf]
      exact evEqs_sound n fs.toList 0 cs xs ys ds es b hs (by simpa using h1) (by simpa using h2) he
    · cases hs
  · cases hs

theorem part_sound {t : TypeId} {off n : Nat} {g : Bool} {cs : List V} {ds : List Value} {v : V} (hz : szA P t = some (n, g)) (hv : VRs μ cs ds) (he : partOf off n g cs = some v) :
    ∃ d, VR μ v d ∧ (part t ds.toArray off).run P w = .ok d w := by
  unfold partOf at he
  cases g with
  | true =>
    simp only [if_true] at he
    split at he
    · cases he
      refine ⟨_, VR.mkAgg ((hv.drop off).take n), ?_⟩
      simp only [part, Sem.run_bind, run_isAgg hz, Result.andThen_ok, if_true, run_sizeOf (szA_size hz), Sem.run_pure]
      congr 2
      apply Array.toList_inj.1
      simp [List.extract_eq_take_drop]
    · cases he
  | false =>
    simp only [Bool.false_eq_true, if_false] at he
    obtain ⟨d, hd, hr⟩ := hv.get he
    exact ⟨d, hr, by simp [part, run_isAgg hz, hd]⟩

theorem foldl_set (l : List Value) : ∀ (k off : Nat) (cells : Array Value), off + k + l.length ≤ cells.size →
    ((l.zipIdx k).foldl (fun cs (x : Value × Nat) => cs.setIfInBounds (off + x.2) x.1) cells).toList = cells.toList.take (off + k) ++ l ++ cells.toList.drop (off + k + l.length) := by
  induction l with
  | nil => intro k off cells _; simp
  | cons v l ih =>
    intro k off cells h
    simp only [List.length_cons] at h
    simp only [List.zipIdx_cons, List.foldl_cons]
    rw [ih (k + 1) off _ (by simp; omega)]
    simp only [Array.toList_setIfInBounds, List.length_cons]
    rw [show off + (k + 1) = off + k + 1 from by omega]
    rw [List.take_set, List.drop_set]
    have hlt : off + k < cells.toList.length := by simp; omega
    rw [if_pos (by omega)]
    have : (cells.toList.take (off + k + 1)).set (off + k) v = cells.toList.take (off + k) ++ [v] := by
      rw [List.take_succ_eq_append_getElem hlt]
      have hm : (cells.toList.take (off + k)).length = off + k := by rw [List.length_take]; omega
      rw [List.set_append_right _ _ (by omega), hm]
      simp
    rw [this]
    simp
    congr 1
    omega
theorem fill_sound {ρ : Opd → V} {ρ' : Operand → Value} {n : Nat} (hρ : ∀ x y, cOpd P n x = some y → VR μ (ρ y) (ρ' x)) (place : Nat → Option (Nat × Nat)) :
    ∀ (ps : List (Nat × Operand)) (qs : List (Nat × Nat × Opd)) (cs : List V) (ds : List Value) (r : List V), cParts P n place ps = some qs → VRs μ cs ds → fillIn ρ cs qs = some r →
    ∃ es, Instr.fill place ds.toArray (ps.map fun p => (p.1, ρ' p.2)) = some es.toArray ∧ VRs μ r es := by
  intro ps
  induction ps with
  | nil =>
    intro qs cs ds r hc hv he
    simp only [cParts] at hc
    cases hc
    simp only [fillIn] at he
    cases he
    exact ⟨ds, by simp [Instr.fill], hv⟩
  | cons p ps ih =>
    intro qs cs ds r hc hv he
    obtain ⟨i, x⟩ := p
    simp only [cParts] at hc
    split at hc
    · rename_i o s y qs' h1 h2 h3
      cases hc
      simp only [fillIn] at he
      split at he
      · rename_i hcond
        obtain ⟨hl, hle, hflat⟩ := hcond
        obtain ⟨vs, hvs, hvr⟩ := (hρ x y h2).cells hflat
        have hlen := hvr.len
        have hlen2 := hv.len
        simp only [List.map_cons, Instr.fill, h1, hvs]
        rw [if_neg (by simp; omega)]
        have hf : (vs.toArray.zipIdx.foldl (fun cs (x : Value × Nat) => cs.setIfInBounds (o + x.2) x.1) ds.toArray) = (ds.take o ++ vs ++ ds.drop (o + s)).toArray := by
          apply Array.toList_inj.1
          rw [← Array.foldl_toList, Array.toList_zipIdx]
          have := foldl_set vs 0 o ds.toArray (by simp; omega)
          simp only [Nat.add_zero] at this
          rw [this]
          simp
          omega
        rw [hf]
        exact ih qs' _ _ r h3 (((hv.take o).append hvr).append (hv.drop (o + s))) he
      · cases he
    · cases hc

theorem bounds_sound {ρ : Opd → V} {ρ' : Operand → Value} {n : Nat} (hρ : ∀ x y, cOpd P n x = some y → VR μ (ρ y) (ρ' x)) {l h : Option Operand} {l' h' : Option Opd}
    (hl : cOpt P n l = some l') (hh : cOpt P n h = some h') {len cap i j : Nat} (hle : len ≤ cap) (he : evBounds ρ len l' h' = some (i, j)) (b : Bool) :
    (Instr.sliceBounds b len cap (l.map ρ') (h.map ρ') none).run P w = .ok (i, j, cap) w ∧ i ≤ j ∧ j ≤ len := by
  have key : ∀ (x : Operand) (y : Opd) (k : IntKind) (z : Int), cOpd P n x = some y → ρ y = .int k z → ρ' x = .int k z := by
    intro x y k z hx hy
    have := hρ x y hx
    rw [hy] at this
    generalize ρ' x = q at this
    cases this; rfl
  unfold evBounds at he
  cases h with
  | none =>
    simp only [cOpt] at hh; cases hh
    simp only at he
    cases l with
    | none =>
      simp only [cOpt] at hl; cases hl
      cases he
      simp [Instr.sliceBounds]
    | some x =>
      simp only [cOpt] at hl
      cases hx : cOpd P n x with
      | none => simp [hx] at hl
      | some y =>
        simp [hx] at hl; subst hl
        simp only at he
        cases hy : ρ y <;> simp [hy] at he
        rename_i k z
        obtain ⟨h1, rfl, rfl⟩ := he
        refine ⟨?_, by omega, by omega⟩
        simp [Instr.sliceBounds, Instr.sliceBound, key x y k z hx hy, asIntOf, h1]
  | some x₂ =>
    simp only [cOpt] at hh
    cases hx₂ : cOpd P n x₂ with
    | none => simp [hx₂] at hh
    | some y₂ =>
      simp [hx₂] at hh; subst hh
      simp only at he
      cases hy₂ : ρ y₂ <;> simp [hy₂] at he
      rename_i k₂ z₂
      split at he
      · cases he
      · rename_i jj hjj
        split at hjj
        · rename_i hz
          cases hjj
          have e2 := key x₂ y₂ k₂ z₂ hx₂ hy₂
          cases l with
          | none =>
            simp only [cOpt] at hl; cases hl
            cases he
            refine ⟨?_, by omega, by omega⟩
            have : 0 ≤ z₂ ∧ z₂ ≤ (cap : Int) := by omega
            simp [Instr.sliceBounds, Instr.sliceBound, e2, asIntOf, this]
          | some x =>
            simp only [cOpt] at hl
            cases hx : cOpd P n x with
            | none => simp [hx] at hl
            | some y =>
              simp [hx] at hl; subst hl
              simp only at he
              cases hy : ρ y <;> simp [hy] at he
              rename_i k z
              obtain ⟨h1, rfl, rfl⟩ := he
              refine ⟨?_, by omega, by omega⟩
              have h2 : 0 ≤ z₂ ∧ z₂ ≤ (cap : Int) := by omega
              have h3 : 0 ≤ z ∧ z ≤ max z₂ 0 := by omega
              simp [Instr.sliceBounds, Instr.sliceBound, e2, key x y k z hx hy, asIntOf, h2, h3]
        · cases hjj

theorem mm_sound (mx : Bool) {x y v : V} {dx dy : Value} (hx : VR μ x dx) (hy : VR μ y dy) (he : evMm mx x y = some v) :
    ∃ d, VR μ v d ∧ (if mx then Builtin.max2 dx dy else Builtin.min2 dx dy).run P w = .ok d w := by
  cases hx <;> simp only [evMm] at he <;> (try cases he; done)
  cases hy <;> simp only [evMm] at he <;> (try cases he; done)
  split at he
  · subst_vars; cases he
    refine ⟨_, .int _ _, ?_⟩
    cases mx <;> simp [Builtin.max2, Builtin.min2]
  · cases he
theorem mms_sound (mx : Bool) : ∀ (xs : List V) (dxs : List Value) (x v : V) (dx : Value), VRs μ xs dxs → VR μ x dx → evMms mx x xs = some v →
    ∃ d, VR μ v d ∧ (dxs.foldlM (if mx then Builtin.max2 else Builtin.min2) dx).run P w = .ok d w := by
  intro xs
  induction xs with
  | nil =>
    intro dxs x v dx hs hx he
    cases hs
    simp only [evMms] at he; cases he
    exact ⟨dx, hx, by simp⟩
  | cons y ys ih =>
    intro dxs x v dx hs hx he
    cases hs with
    | cons hy hys =>
      simp only [evMms] at he
      split at he
      · rename_i u hu
        obtain ⟨d, hd, hr⟩ := mm_sound (P := P) (w := w) mx hx hy hu
        obtain ⟨d', hd', hr'⟩ := ih _ u v d hys hd he
        refine ⟨d', hd', ?_⟩
        cases mx <;> simp at hr hr' ⊢ <;> rw [hr] <;> simpa using hr'
      · cases he
theorem vrs_map {ρ : Opd → V} {ρ' : Operand → Value} {n : Nat} (hρ : ∀ x y, cOpd P n x = some y → VR μ (ρ y) (ρ' x)) : ∀ (xs : List Operand) (ys : List Opd), cOpds P n xs = some ys → VRs μ (ys.map ρ) (xs.map ρ')
  | [], ys, h => by simp only [cOpds] at h; cases h; exact .nil
  | x :: xs, ys, h => by
    simp only [cOpds] at h
    split at h
    · rename_i y ys' h1 h2
      cases h
      exact .cons (hρ x y h1) (vrs_map hρ xs ys' h2)
    · cases h
end Mir
