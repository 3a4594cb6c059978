/- The mirror, part 6: each operation on the temporaries alone is carried out as the mirror says. -/
import Derived.Test.YtijipnkdabdioaaMir5
set_option linter.unusedSimpArgs false
set_option linter.unusedVariables false
namespace Mir
open Go
variable {P : Program} {μ : Mu} {w : World} {n : Nat} {ρ : Opd → V} {ρ' : Operand → Value} {v : V}

theorem val_of {s : Sem Value} {d : Value} {w' : World} (h : s.run P w = .ok d w') : (do let x ← s; pure (Next.value x) : Sem Next).run P w = .ok (.value d) w' := by simp [h]
theorem intTypes_spec {t : TypeId} (h : t ∈ intTypes P) : (∃ k, P.underlying t = some (.int k)) ∧ ∃ i, P.info? t = some i ∧ i.comparable = true := by
  unfold intTypes at h
  have h2 := (List.mem_filter.1 h).2
  split at h2
  · rename_i k i e1 e2; exact ⟨⟨k, e1⟩, i, e2, h2⟩
  · cases h2
theorem evIf_sound {t : TypeId} {ms : _} (hu : P.underlying t = some (.interface ms)) {x y : V} {b : Bool} {dx dy : Value} (hx : VR μ x dx) (hy : VR μ y dy) (he : evIf (intTypes P) x y = some b) (n : Nat) :
    (Op.equalIn (n + 2) t dx dy).run P w = .ok b w ∧ ¬ (dx = .nilIface ∧ dy = .nilIface) ∧ (dx = .nilIface ∨ ∃ u d, dx = .iface u d) ∧ (dy = .nilIface ∨ ∃ u d, dy = .iface u d) := by
  unfold evIf at he
  split at he
  · cases he
    cases hx; cases hy
    exact ⟨by simp [Op.equalIn, run_und hu], by simp, .inl rfl, .inr ⟨_, _, rfl⟩⟩
  · cases he
    cases hx; cases hy
    exact ⟨by simp [Op.equalIn, run_und hu], by simp, .inr ⟨_, _, rfl⟩, .inl rfl⟩
  · cases hx with
    | iface hx =>
      cases hy with
      | iface hy =>
        cases hx; cases hy
        refine ⟨?_, by simp, .inr ⟨_, _, rfl⟩, .inr ⟨_, _, rfl⟩⟩
        split at he
        · rename_i e
          subst e
          split at he
          · rename_i e2
            obtain ⟨e3, e4⟩ := e2
            subst e3
            cases he
            obtain ⟨hk, i, h2, h3⟩ := intTypes_spec e4
            rename_i tt kk a1 b1
            have h5 : (Op.equalIn (n + 1) tt (.int kk a1) (.int kk b1)).run P w = .ok (a1 == b1) w := evEq_sound (c := .int) (μ := μ) (t := tt) hk (VR.int kk a1) (VR.int kk b1) (by simp [evEq]) n
            rw [Op.equalIn]
            simp only [Sem.run_bind, run_und hu, Result.andThen_ok, ne_eq, not_true_eq_false, if_false, run_typeInfo_some h2, h3, Bool.not_true, Bool.false_eq_true]
            exact h5
          · cases he
        · rename_i e
          cases he
          rw [Op.equalIn]
          simp only [Sem.run_bind, run_und hu, Result.andThen_ok, ne_eq, e, not_false_eq_true, if_true, Sem.run_pure]
  · cases he
theorem cEq_sound {neg : Bool} {t : TypeId} {x y : Operand} {a b : Opd} {k : PK} (hc : cEq P neg t x y a b = some k) (hx : VR μ (ρ a) (ρ' x)) (hy : VR μ (ρ b) (ρ' y))
    (hcx : isConst x = true → ∃ c, x = .const c) (hcy : isConst y = true → ∃ c, y = .const c) (he : k.ev ρ = some v) :
    ∃ d, VR μ v d ∧ (do eqGuard (if neg then .neq else .eql) t x y (ρ' x) (ρ' y); binOp (if neg then .neq else .eql) t (ρ' x) (ρ' y) : Sem Value).run P w = .ok d w := by
  have fin : ∀ (c : EqC), EqT P t c → c ≠ .int → c ≠ .str → c ≠ .iface → PK.ev ρ (.eq c neg a b) = some v →
      ∃ d, VR μ v d ∧ (do eqGuard (if neg then .neq else .eql) t x y (ρ' x) (ρ' y); binOp (if neg then .neq else .eql) t (ρ' x) (ρ' y) : Sem Value).run P w = .ok d w := by
    intro c hT h1 h2 h3 he
    simp only [PK.ev] at he
    cases hb : evEq c (ρ a) (ρ b) with
    | none => simp [hb] at he
    | some r =>
      simp [hb] at he; subst he
      refine ⟨_, .bool _, ?_⟩
      have hs := evEq_sound hT hx hy hb (w := w) 9999
      generalize ρ' x = dx at *
      generalize ρ' y = dy at *
      cases c <;> first | (exact absurd rfl h1) | (exact absurd rfl h2) | (exact absurd rfl h3) | skip
      all_goals
        generalize ρ a = va at *
        generalize ρ b = vb at *
        cases hx <;> simp only [evEq] at hb <;> (try cases hb; done) <;> cases hy <;> simp only [evEq] at hb <;> (try cases hb; done)
        all_goals (cases neg <;> simp [eqGuard_at_bool, eqGuard_at_pointer, eqGuard_at_slice, eqGuard_at_map, eqGuard_at_func, eqGuard_at_nilFunc, binOp, Op.equal, Op.maxDepth, hs])
  unfold cEq at hc
  split at hc
  · cases hc; simp only [PK.ev] at he; exact evBin_sound hx hy he t x y
  · cases hc; simp only [PK.ev] at he; exact evBin_sound hx hy he t x y
  · rename_i hu; cases hc; exact fin .bool hu (by simp) (by simp) (by simp) he
  · rename_i e hu
    split at hc
    · rename_i s hs
      split at hc
      · cases hc
      · rename_i h0; cases hc; exact fin .ptr ⟨e, s, hu, hs, h0⟩ (by simp) (by simp) (by simp) he
    · cases hc
  · rename_i e hu; cases hc; exact fin .sl ⟨e, hu⟩ (by simp) (by simp) (by simp) he
  · rename_i e e' hu; cases hc; exact fin .map ⟨e, e', hu⟩ (by simp) (by simp) (by simp) he
  · rename_i e e' e'' hu; cases hc; exact fin .fn ⟨e, e', e'', hu⟩ (by simp) (by simp) (by simp) he
  · rename_i ms hu
    split at hc
    · rename_i hcon
      cases hc
      simp only [PK.ev] at he
      cases hb : evEq .iface (ρ a) (ρ b) with
      | none => simp [hb] at he
      | some r =>
        simp [hb] at he; subst he
        refine ⟨_, .bool _, ?_⟩
        have hs := evEq_sound (c := .iface) (t := t) (P := P) ⟨ms, hu⟩ hx hy hb (w := w) 9999
        have hg : (eqGuard (if neg then .neq else .eql) t x y (ρ' x) (ρ' y)).run P w = .ok () w := by
          simp only [Bool.or_eq_true] at hcon
          generalize ρ' x = dx at *
          generalize ρ' y = dy at *
          generalize ρ a = va at *
          generalize ρ b = vb at *
          cases hx <;> simp only [evEq] at hb <;> (try cases hb; done) <;> cases hy <;> simp only [evEq] at hb <;> (try cases hb; done)
          · cases neg <;> simp [eqGuard]
          · rw [eqGuard_nil_iface]; simp
          · rcases hcon with h | h
            · obtain ⟨c, rfl⟩ := hcx h; rw [eqGuard_nil_constL]; simp
            · obtain ⟨c, rfl⟩ := hcy h; rw [eqGuard_nil_constR]; simp
        rw [Sem.run_bind, hg]
        simp only [Result.andThen_ok]
        generalize ρ' x = dx at *
        generalize ρ' y = dy at *
        generalize ρ a = va at *
        generalize ρ b = vb at *
        cases hx <;> simp only [evEq] at hb <;> (try cases hb; done) <;> cases hy <;> simp only [evEq] at hb <;> (try cases hb; done)
        all_goals (cases neg <;> simp [binOp, Op.equal, Op.maxDepth, hs])
    · cases hc
      simp only [PK.ev] at he
      cases hb : evIf (intTypes P) (ρ a) (ρ b) with
      | none => simp [hb] at he
      | some r =>
        simp [hb] at he; subst he
        refine ⟨_, .bool _, ?_⟩
        obtain ⟨hs, hn, hdx, hdy⟩ := evIf_sound (w := w) hu hx hy hb 9998
        generalize ρ' x = dx at *
        generalize ρ' y = dy at *
        rcases hdx with rfl | ⟨u, d, rfl⟩ <;> rcases hdy with rfl | ⟨u', d', rfl⟩
        · exact absurd ⟨rfl, rfl⟩ hn
        all_goals (cases neg <;> simp [eqGuard, binOp, Op.equal, Op.maxDepth, hs])
  · rename_i fs hu
    cases hs : structEq P t with
    | none => simp [hs] at hc
    | some cs =>
      simp [hs] at hc; subst hc
      simp only [PK.ev] at he
      cases hxa : ρ a <;> simp only [hxa] at he <;> (try cases he; done)
      rename_i xs
      cases hya : ρ b <;> simp only [hya] at he <;> (try cases he; done)
      rename_i ys
      rw [hxa] at hx; rw [hya] at hy
      obtain ⟨r, hr, rfl⟩ := Option.map_eq_some_iff.1 he
      refine ⟨_, .bool _, ?_⟩
      have hq := structEq_sound (w := w) hs hx hy hr 9998
      have hg2 : P.eqGuardType P.depth t = false := by
        unfold structEq at hs
        rw [hu] at hs
        simp only at hs
        split at hs
        · rename_i h; exact h.2
        · cases hs
      obtain ⟨ds, e1, _⟩ := hx.agg_inv
      obtain ⟨es, e2, _⟩ := hy.agg_inv
      rw [e1, e2] at hq ⊢
      cases neg <;> simp [eqGuard, hg2, binOp, Op.equal, Op.maxDepth, hq]
  · cases hc

/-- What is known of the temporaries, operand by operand. -/
abbrev Rho (P : Program) (n : Nat) (μ : Mu) (ρ : Opd → V) (ρ' : Operand → Value) : Prop := ∀ x y, cOpd P n x = some y → VR μ (ρ y) (ρ' x)

theorem isConst_spec (x : Operand) : isConst x = true → ∃ c, x = .const c := by
  cases x <;> simp [isConst]

/-- A value of a string, of a slice .. in the model's form. -/
theorem VR.str_inv {s : List UInt8} {d : Value} (h : VR μ (.str s) d) : d = .string ⟨s.toArray⟩ := by cases h; rfl
theorem VR.int_inv {k : IntKind} {i : Int} {d : Value} (h : VR μ (.int k i) d) : d = .int k i := by cases h; rfl
theorem VR.bool_inv {b : Bool} {d : Value} (h : VR μ (.bool b) d) : d = .bool b := by cases h; rfl
theorem VR.ptr_inv {b o : Nat} {d : Value} (h : VR μ (.ptr b o) d) : ∃ L, μ b = some L ∧ d = .pointer (some ⟨L.B, L.s + o, none⟩) := by cases h; exact ⟨_, ‹_›, rfl⟩
theorem VR.sl_inv {b o es len : Nat} {d : Value} (h : VR μ (.sl b o es len) d) :
    ∃ L o' cap, μ b = some L ∧ (0 < len → o' = o) ∧ len ≤ cap ∧ L.s + o' + cap * es ≤ L.n ∧ 0 < es ∧ d = .slice (some ⟨L.B, L.s + o', none⟩) len cap := by
  cases h; exact ⟨_, _, _, ‹_›, ‹_›, ‹_›, ‹_›, ‹_›, rfl⟩
theorem VR.nilsl_inv {d : Value} (h : VR μ .nilsl d) : d = .slice none 0 0 := by cases h; rfl
theorem VR.map_inv {b : Nat} {d : Value} (h : VR μ (.map b) d) : ∃ L, μ b = some L ∧ d = .map (some L.B) := by cases h; exact ⟨_, ‹_›, rfl⟩
theorem VR.iface_inv {t : Nat} {v : V} {d : Value} (h : VR μ (.iface t v) d) : ∃ u, d = .iface t u ∧ VR μ v u := by cases h; exact ⟨_, rfl, ‹_›⟩

theorem add_lit (b o j : Nat) : Addr.add ⟨b, o, none⟩ j = ⟨b, o + j, none⟩ := Addr.add_lit b o j

theorem sliceSl_sound {t e : TypeId} {s : Nat} {x : Operand} {a : Opd} {l h : Option Operand} {l' h' : Option Opd} (hρ : Rho P n μ ρ ρ') (hu : P.underlying t = some (.slice e)) (hs : szOf P e = some s)
    (hx : cOpd P n x = some a) (hl : cOpt P n l = some l') (hh : cOpt P n h = some h') (he : PK.ev ρ (.subSl s a l' h') = some v) :
    ∃ d, VR μ v d ∧ (Instr.sliceAt t (ρ' x) (l.map ρ') (h.map ρ') none).run P w = .ok d w := by
  have hv := hρ x a hx
  simp only [PK.ev] at he
  cases ha : ρ a <;> simp [ha] at he
  case sl b o es len =>
    rw [ha] at hv
    obtain ⟨hes, i, j, hb, rfl⟩ := he
    subst hes
    obtain ⟨L, o', cap, hL, ho, hc, hn, hp, e'⟩ := hv.sl_inv
    obtain ⟨hr, hij, hjl⟩ := bounds_sound (w := w) hρ hl hh hc hb true
    refine ⟨_, .sl (L := L) (o' := if cap = i then o' else o' + i * s) (cap := cap - i) hL ?_ (by omega) ?_ hp, ?_⟩
    · intro hlt
      rw [if_neg (by omega), ho (by omega)]
    · split
      · rename_i e; subst e; simp; exact Nat.le_trans (Nat.le_add_right _ _) hn
      · have : (cap - i) * s + i * s = cap * s := by rw [← Nat.add_mul]; congr 1; omega
        omega
    · rw [e']
      simp only [Instr.sliceAt, Sem.run_bind, run_und hu, Result.andThen_ok, Instr.slice, hr, run_sizeOf hs, Sem.run_pure]
      congr 2
      split
      · rfl
      · simp only [Option.map_some, add_lit]; rw [Nat.add_assoc]
  case nilsl =>
    rw [ha] at hv
    obtain ⟨⟨i, j, hb⟩, rfl⟩ := he
    rw [hv.nilsl_inv]
    obtain ⟨hr, hij, hjl⟩ := bounds_sound (w := w) hρ hl hh (Nat.le_refl 0) hb true
    refine ⟨_, .nilsl, ?_⟩
    have hi0 : i = 0 := by omega
    have hj0 : j = 0 := by omega
    subst hi0; subst hj0
    simp [Instr.sliceAt, run_und hu, Instr.slice, hr, run_sizeOf hs]

theorem idxAgg_sound {t e : TypeId} {k s : Nat} {g : Bool} {a b : Opd} {da db : Value} (hu : P.underlying t = some (.array k e)) (hs : szA P e = some (s, g)) (ha : VR μ (ρ a) da) (hb : VR μ (ρ b) db)
    (he : PK.ev ρ (.idxAgg k s g a b) = some v) : ∃ d, VR μ v d ∧ (Instr.index t da db).run P w = .ok d w := by
  simp only [PK.ev] at he
  cases ea : ρ a <;> simp only [ea] at he <;> (try cases he; done)
  cases eb : ρ b <;> simp only [eb] at he <;> (try cases he; done)
  rename_i cs kk i
  rw [ea] at ha; rw [eb] at hb
  split at he
  · rename_i h1
    obtain ⟨ds, rfl, hv⟩ := ha.agg_inv
    rw [hb.int_inv]
    obtain ⟨d, hd, hr⟩ := part_sound (w := w) hs hv he
    refine ⟨d, hd, ?_⟩
    simp [Instr.index, asIntOf, run_und hu, h1, run_sizeOf (szA_size hs), hr]
  · cases he

theorem toVs_sound {f : Value → Option V} (hf : ∀ d v, f d = some v → VR μ v d) : ∀ (ds : List Value) (vs : List V), toVs f ds = some vs → VRs μ vs ds
  | [], vs, h => by simp only [toVs] at h; cases h; exact .nil
  | d :: ds, vs, h => by
    simp only [toVs] at h
    split at h
    · rename_i x xs h1 h2; cases h; exact .cons (hf _ _ h1) (toVs_sound hf ds xs h2)
    · cases h
theorem toV_sound : ∀ (k : Nat) (d : Value) (v : V), toV k d = some v → VR μ v d
  | 0, d, v, h => by simp only [toV] at h; cases h
  | k + 1, d, v, h => by
    simp only [toV] at h
    split at h
    · cases h; exact .bool _
    · cases h; exact .int _ _
    · rename_i s; cases h; exact .str s.data.toList
    · cases h; exact .nilptr
    · cases h; exact .nilsl
    · cases h; exact .nilmap
    · cases h; exact .nilfn
    · cases h; exact .nilif
    · rename_i f a c
      split at h
      · rename_i e
        cases h
        have ha : a = #[] := Array.eq_empty_of_size_eq_zero e.1
        have hc : c = #[] := Array.eq_empty_of_size_eq_zero e.2
        subst ha; subst hc
        exact VR.mkFn .nil .nil
      · cases h
    · rename_i t u
      cases hu : toV k u with
      | none => simp [hu] at h
      | some x => simp [hu] at h; subst h; exact .iface (toV_sound k u x hu)
    · rename_i cs
      cases hu : toVs (toV k) cs.toList with
      | none => simp [hu] at h
      | some x => simp [hu] at h; subst h; have := VR.mkAgg (toVs_sound (toV_sound k) _ _ hu); simpa using this
    · rename_i cs
      cases hu : toVs (toV k) cs.toList with
      | none => simp [hu] at h
      | some x => simp [hu] at h; subst h; have := VR.mkTup (toVs_sound (toV_sound k) _ _ hu); simpa using this
    · cases h
theorem zeroT_sound {t : TypeId} {v : V} (h : zeroT P t = some v) : ∃ d, VR μ v d ∧ ∀ w, (zeroValue t).run P w = .ok d w := by
  unfold zeroT at h
  split at h
  · rename_i i hi
    split at h
    · rename_i z hz
      exact ⟨z, toV_sound 4 z v h, fun w => by simp [zeroValue, run_typeInfo_some hi, hz]⟩
    · cases h
  · cases h
theorem zeroCs_sound {t : TypeId} {z : List V} (h : zeroCs P t = some z) : ∃ d ds, (∀ w, (zeroValue t).run P w = .ok d w) ∧ d.cells = ds.toArray ∧ VRs μ z ds ∧ szOf P t = some z.length ∧ 0 < z.length ∧ z.all V.flat = true := by
  unfold zeroCs at h
  split at h
  · rename_i zv s h1 h2
    split at h
    · rename_i hc
      cases h
      obtain ⟨d, hd, hr⟩ := zeroT_sound (μ := μ) h1
      obtain ⟨ds, hds, hv⟩ := hd.cells hc.2.1
      refine ⟨d, ds, hr, hds, hv, by rw [h2, hc.1], by omega, hc.2.1⟩
    · cases h
  · cases h

theorem cParts_imp {p p' : Nat → Option (Nat × Nat)} (h : ∀ i x, p i = some x → p' i = some x) : ∀ (ps : List (Nat × Operand)) (qs : List (Nat × Nat × Opd)), cParts P n p ps = some qs → cParts P n p' ps = some qs
  | [], qs, hq => by simpa [cParts] using hq
  | (i, x) :: ps, qs, hq => by
    simp only [cParts] at hq ⊢
    split at hq
    · rename_i o s y qs' h1 h2 h3
      cases hq
      rw [h _ _ h1, h2, cParts_imp h ps qs' h3]
    · cases hq

theorem run_places_list (w : World) : ∀ (fs : List Field), fs.all (fun f => (szOf P f.type).isSome) = true →
    (fs.mapM (fun f => do let s ← Go.sizeOf f.type; pure (f.offset, s)) : Sem (List (Nat × Nat))).run P w = .ok (fs.map fun f => (f.offset, (szOf P f.type).getD 0)) w
  | [], _ => by simp
  | f :: fs, h => by
    simp only [List.all_cons, Bool.and_eq_true] at h
    obtain ⟨s, hs⟩ := Option.isSome_iff_exists.1 h.1
    simp only [List.mapM_cons, Sem.run_bind, run_sizeOf hs, Result.andThen_ok, Sem.run_pure, run_places_list w fs h.2, List.map_cons, hs, Option.getD_some]
theorem run_places (w : World) (fs : Array Field) (h : fs.toList.all (fun f => (szOf P f.type).isSome) = true) :
    (fs.mapM (fun f => do let s ← Go.sizeOf f.type; pure (f.offset, s)) : Sem (Array (Nat × Nat))).run P w = .ok (fs.map fun f => (f.offset, (szOf P f.type).getD 0)) w := by
  rw [Array.mapM_eq_mapM_toList]
  rw [Sem.run_map, run_places_list w fs.toList h]
  simp only [Result.andThen_ok]
  congr 1
  apply Array.toList_inj.1
  simp
theorem build_sound {t : TypeId} {ps : Array (Nat × Operand)} {z : List V} {qs : List (Nat × Nat × Opd)} (hρ : Rho P n μ ρ ρ') (hz : zeroCs P t = some z)
    (hq : (∃ fs, P.underlying t = some (.struct fs) ∧ fs.toList.all (fun f => (szOf P f.type).isSome) = true ∧ cParts P n (fieldPl P fs) ps.toList = some qs) ∨ (∃ k e s, P.underlying t = some (.array k e) ∧ szOf P e = some s ∧ cParts P n (fun i => some (i * s, s)) ps.toList = some qs))
    (he : PK.ev ρ (.build z qs) = some v) : ∃ d, VR μ v d ∧ (Instr.build t (ps.map fun p => (p.1, ρ' p.2))).run P w = .ok d w := by
  obtain ⟨d, ds, hd, hcs, hv, hs, _⟩ := zeroCs_sound (μ := μ) hz
  simp only [PK.ev] at he
  cases hf : fillIn ρ z qs with
  | none => simp [hf] at he
  | some r =>
    simp [hf] at he; subst he
    rcases hq with ⟨fs, hu, hall, hc⟩ | ⟨k, e, s, hu, hse, hc⟩
    · have hm := run_places (P := P) w fs hall
      obtain ⟨es, h1, h2⟩ := fill_sound hρ _ ps.toList qs z ds r (cParts_imp (p' := ((fs.map fun f => (f.offset, (szOf P f.type).getD 0))[·]?)) (fun i x h => by
        unfold fieldPl at h
        cases hi : fs[i]? with
        | none => simp [hi] at h
        | some f =>
          simp only [hi] at h
          obtain ⟨s, hs', rfl⟩ := Option.map_eq_some_iff.1 h
          simp [hi, hs']) _ _ hc) hv hf
      refine ⟨_, VR.mkAgg h2, ?_⟩
      simp only [Instr.build, Sem.run_bind, hd, Result.andThen_ok, run_und hu, hcs, hm]
      rw [show (ps.map fun p => (p.1, ρ' p.2)).toList = ps.toList.map fun p => (p.1, ρ' p.2) from Array.toList_map ..]
      rw [h1]
      rfl
    · obtain ⟨es, h1, h2⟩ := fill_sound hρ (fun i => some (i * s, s)) ps.toList qs z ds r hc hv hf
      refine ⟨_, VR.mkAgg h2, ?_⟩
      simp only [Instr.build, Sem.run_bind, hd, Result.andThen_ok, run_und hu, run_sizeOf hse, hcs]
      rw [show (ps.map fun p => (p.1, ρ' p.2)).toList = ps.toList.map fun p => (p.1, ρ' p.2) from Array.toList_map ..]
      rw [h1]
      rfl

theorem rho1 {x : Operand} {a : Opd} (hρ : Rho P n μ ρ ρ') (hx : cOpd P n x = some a) : VR μ (ρ a) (ρ' x) := hρ x a hx

theorem builtin_sound {b : Builtin} {args : Array Operand} {ts : Array TypeId} {type : TypeId} {k : PK} (hρ : Rho P n μ ρ ρ') (hc : cBuiltin P n b args.toList ts.toList = some (.p k)) (he : k.ev ρ = some v) :
    ∃ d, VR μ v d ∧ ∀ consts, (builtin b ts type consts (args.map ρ')).run P w = .ok (.value d) w := by
  have hargs : (args.map ρ').toList = args.toList.map ρ' := Array.toList_map ..
  unfold cBuiltin at hc
  split at hc
  · rename_i x t tl hA hT
    have h0 : (args.map ρ')[0]? = some (ρ' x) := by rw [← Array.getElem?_toList, hargs, hA]; simp
    have t0 : ts[0]? = some t := by rw [← Array.getElem?_toList, hT]; simp
    split at hc
    · rename_i a h1 h2
      cases hc
      have hv := rho1 hρ h1
      simp only [PK.ev] at he
      cases ha : ρ a <;> simp only [ha] at he <;> (try cases he; done)
      rw [ha] at hv
      cases he
      refine ⟨_, .int _ _, fun consts => ?_⟩
      simp only [builtin]
      refine val_of ?_
      simp [Builtin.len_, h0, t0, run_und h2, hv.str_inv, bytes_size, goInt]
    · rename_i a e h1 h2
      cases hc
      have hv := rho1 hρ h1
      simp only [PK.ev] at he
      cases ha : ρ a <;> simp only [ha] at he <;> (try cases he; done)
      · rw [ha] at hv
        cases he
        obtain ⟨L, o', cap, hL, ho, hc', hn, hp, e'⟩ := hv.sl_inv
        refine ⟨_, .int _ _, fun consts => ?_⟩
        simp only [builtin]
        refine val_of ?_
        simp [Builtin.len_, h0, t0, run_und h2, e', goInt]
      · rw [ha] at hv
        cases he
        refine ⟨_, .int _ _, fun consts => ?_⟩
        simp only [builtin]
        refine val_of ?_
        simp [Builtin.len_, h0, t0, run_und h2, hv.nilsl_inv, goInt]
    · cases hc
    · rename_i a k' e h1 h2
      cases hc
      simp only [PK.ev] at he
      cases he
      refine ⟨_, .int _ _, fun consts => ?_⟩
      simp only [builtin]
      refine val_of ?_
      simp [Builtin.len_, h0, t0, run_und h2, goInt]
    · cases hc
  · rename_i x xs _ hA
    split at hc
    · rename_i a as h1 h2
      cases hc
      simp only [PK.ev] at he
      obtain ⟨d, hd, hr⟩ := mms_sound (P := P) (w := w) false _ _ _ _ _ (vrs_map hρ _ _ h2) (rho1 hρ h1) he
      refine ⟨d, hd, fun consts => ?_⟩
      simp only [builtin]
      refine val_of ?_
      simp only [Builtin.min_, hargs, hA, List.map_cons]
      simpa using hr
    · cases hc
  · rename_i x xs _ hA
    split at hc
    · rename_i a as h1 h2
      cases hc
      simp only [PK.ev] at he
      obtain ⟨d, hd, hr⟩ := mms_sound (P := P) (w := w) true _ _ _ _ _ (vrs_map hρ _ _ h2) (rho1 hρ h1) he
      refine ⟨d, hd, fun consts => ?_⟩
      simp only [builtin]
      refine val_of ?_
      simp only [Builtin.max_, hargs, hA, List.map_cons]
      simpa using hr
    · cases hc
  all_goals (repeat' (first | (cases hc; done) | (obtain ⟨_, _, e⟩ := Option.map_eq_some_iff.1 hc; cases e; done) | split at hc))

set_option maxHeartbeats 4000000 in
theorem pk_sound {op : Op} {k : PK} (hc : cOp P n op = some (.p k)) (hρ : Rho P n μ ρ ρ') (he : k.ev ρ = some v) (o : Oper) (ho : o.op = op) :
    ∃ d, VR μ v d ∧ (execOp ρ' o).run P w = .ok (.value d) w := by
  obtain ⟨dst, op', type, pos, after, guard⟩ := o
  simp only at ho
  subst ho
  cases op' with
  | move x =>
    simp only [cOp] at hc
    obtain ⟨a, hx, hk⟩ := Option.map_eq_some_iff.1 hc
    cases hk
    simp only [PK.ev] at he; cases he
    exact ⟨_, rho1 hρ hx, by simp [execOp]⟩
  | assign x =>
    simp only [cOp] at hc
    obtain ⟨a, hx, hk⟩ := Option.map_eq_some_iff.1 hc
    cases hk
    simp only [PK.ev] at he; cases he
    exact ⟨_, rho1 hρ hx, by simp [execOp]⟩
  | pick c x y =>
    simp only [cOp] at hc
    split at hc
    · rename_i c' a b h1 h2 h3
      cases hc
      simp only [PK.ev] at he
      have hv := rho1 hρ h1
      cases hcv : ρ c' <;> simp only [hcv] at he <;> (try cases he; done)
      rename_i bb
      rw [hcv] at hv
      cases he
      refine ⟨if bb then ρ' x else ρ' y, ?_, by simp [execOp, hv.bool_inv, asBool]⟩
      cases bb
      · exact rho1 hρ h3
      · exact rho1 hρ h2
    · cases hc
  | build t ps =>
    simp only [cOp] at hc
    split at hc
    · rename_i fs z hu hz
      split at hc
      · rename_i hall
        obtain ⟨qs, hq, hk⟩ := Option.map_eq_some_iff.1 hc
        cases hk
        obtain ⟨d, hd, hr⟩ := build_sound (w := w) hρ hz (.inl ⟨fs, hu, hall, hq⟩) he
        exact ⟨d, hd, by simp only [execOp]; exact val_of hr⟩
      · cases hc
    · rename_i k' e z hu hz
      split at hc
      · rename_i s hs
        obtain ⟨qs, hq, hk⟩ := Option.map_eq_some_iff.1 hc
        cases hk
        obtain ⟨d, hd, hr⟩ := build_sound (w := w) hρ hz (.inr ⟨_, e, s, hu, hs, hq⟩) he
        exact ⟨d, hd, by simp only [execOp]; exact val_of hr⟩
      · cases hc
    · cases hc
  | nilCheck x =>
    simp only [cOp] at hc
    obtain ⟨a, hx, hk⟩ := Option.map_eq_some_iff.1 hc
    cases hk
    have hv := rho1 hρ hx
    simp only [PK.ev] at he
    generalize ρ a = va at *
    simp only [execOp]
    generalize ρ' x = dx at *
    cases hv <;> simp only at he <;> (try cases he; done) <;> cases he
    all_goals first
      | exact ⟨_, VR.fn ‹_› ‹_› ‹_› ‹_›, by simp⟩
      | exact ⟨_, VR.agg ‹_› ‹_›, by simp⟩
      | exact ⟨_, VR.tup ‹_› ‹_›, by simp⟩
      | exact ⟨_, VR.iface ‹_›, by simp⟩
      | exact ⟨_, VR.sl ‹_› ‹_› ‹_› ‹_› ‹_›, by simp⟩
      | exact ⟨_, VR.ptr ‹_›, by simp⟩
      | exact ⟨_, VR.map ‹_›, by simp⟩
      | exact ⟨_, VR.yield ‹_›, by simp⟩
      | exact ⟨_, by constructor, by simp⟩
  | binOp op t x y u =>
    simp only [cOp] at hc
    split at hc
    · rename_i a b h1 h2
      have hx := rho1 hρ h1
      have hy := rho1 hρ h2
      have gen : ∀ d, (do eqGuard op t x y (ρ' x) (ρ' y); binOp op t (ρ' x) (ρ' y) : Sem Value).run P w = .ok d w →
          (execOp ρ' { dst := dst, op := .binOp op t x y u, type := type, pos := pos, after := after, guard := guard }).run P w = .ok (.value d) w := by
        intro d hd
        simp only [execOp]
        exact val_of hd
      split at hc
      · obtain ⟨k', hk, e⟩ := Option.map_eq_some_iff.1 hc
        cases e
        obtain ⟨d, hd, hr⟩ := cEq_sound (w := w) hk hx hy (isConst_spec x) (isConst_spec y) he
        exact ⟨d, hd, gen d (by simpa using hr)⟩
      · obtain ⟨k', hk, e⟩ := Option.map_eq_some_iff.1 hc
        cases e
        obtain ⟨d, hd, hr⟩ := cEq_sound (w := w) hk hx hy (isConst_spec x) (isConst_spec y) he
        exact ⟨d, hd, gen d (by simpa using hr)⟩
      · cases hc
        simp only [PK.ev] at he
        obtain ⟨d, hd, hr⟩ := evBin_sound (P := P) (w := w) hx hy he t x y
        exact ⟨d, hd, gen d hr⟩
    · cases hc
  | unOp op t x =>
    simp only [cOp] at hc
    obtain ⟨a, hx, hk⟩ := Option.map_eq_some_iff.1 hc
    cases hk
    have hv := rho1 hρ hx
    simp only [PK.ev] at he
    cases ha : ρ a <;> cases op <;> simp only [ha] at he <;> (try cases he; done)
    · rw [ha] at hv
      cases he
      exact ⟨_, .bool _, by simp [execOp, hv.bool_inv, Op.unary]⟩
    · rw [ha] at hv
      cases he
      exact ⟨_, .int _ _, by simp [execOp, hv.int_inv, Op.unary, Op.intArith]⟩
  | convert s d x =>
    simp only [cOp] at hc
    split at hc
    · rename_i a k1 k2 h1 h2 h3
      cases hc
      have hv := rho1 hρ h1
      simp only [PK.ev] at he
      cases ha : ρ a <;> simp only [ha] at he <;> (try cases he; done)
      rw [ha] at hv
      cases he
      exact ⟨_, .int _ _, by simp [execOp, hv.int_inv, convert, run_und h2, run_und h3, Conv.intToInt]⟩
    · rename_i a h1 h2 h3
      cases hc
      have hv := rho1 hρ h1
      simp only [PK.ev] at he
      cases ha : ρ a <;> simp only [ha] at he <;> (try cases he; done)
      rw [ha] at hv
      cases he
      exact ⟨_, .str _, by simp [execOp, hv.str_inv, convert, run_und h2, run_und h3]⟩
    · split at hc <;> cases hc
    · split at hc <;> cases hc
    · cases hc
  | makeInterface t x =>
    simp only [cOp] at hc
    split at hc
    · cases hc
    · rename_i a u hni h1 h2
      cases hc
      simp only [PK.ev] at he; cases he
      refine ⟨_, .iface (rho1 hρ h1), ?_⟩
      simp only [execOp]
      refine val_of ?_
      simp only [Instr.makeInterface, Sem.run_bind, run_und h2, Result.andThen_ok]
      cases u <;> first | rfl | exact absurd rfl (hni _ _)
    · cases hc
  | makeFunc f a c =>
    cases f <;> simp only [cOp] at hc <;> (try cases hc; done)
    split at hc
    · rename_i as cs h1 h2
      cases hc
      simp only [PK.ev] at he; cases he
      refine ⟨_, VR.mkFn (vrs_map hρ _ _ h1) (vrs_map hρ _ _ h2), ?_⟩
      simp only [execOp, Instr.makeFunc]
      refine val_of ?_
      simp only [Sem.run_pure]
      congr 2 <;> (apply Array.toList_inj.1; simp)
    · cases hc
  | slice t x l h m =>
    cases m with
    | some m => simp only [cOp] at hc; cases hc
    | none =>
      simp only [cOp] at hc
      split at hc
      · rename_i a l' h' h1 h2 h3 h4
        cases hc
        have hv := rho1 hρ h1
        simp only [PK.ev] at he
        cases ha : ρ a <;> simp only [ha] at he <;> (try cases he; done)
        rename_i s
        rw [ha] at hv
        obtain ⟨⟨i, j⟩, hb, rfl⟩ := Option.map_eq_some_iff.1 he
        obtain ⟨hr, hij, hjl⟩ := bounds_sound (w := w) hρ h2 h3 (Nat.le_refl s.length) hb false
        refine ⟨_, .str _, ?_⟩
        simp only [execOp]
        refine val_of ?_
        rw [hv.str_inv]
        simp only [Instr.sliceAt, Sem.run_bind, run_und h4, Result.andThen_ok, Instr.slice, Option.map_none, Option.isSome_none, Bool.false_eq_true, if_false, bytes_size, hr, bytes_extract, Sem.run_pure]
      · rename_i a l' h' e h1 h2 h3 h4
        split at hc
        · rename_i s hs
          split at hc
          · cases hc
            obtain ⟨d, hd, hr⟩ := sliceSl_sound (w := w) hρ h4 hs h1 h2 h3 he
            exact ⟨d, hd, by simp only [execOp, Option.map_none]; exact val_of hr⟩
          · cases hc
        · cases hc
      · split at hc
        · split at hc <;> cases hc
        · cases hc
      · cases hc
  | fieldAddr t x f =>
    simp only [cOp] at hc
    split at hc
    · rename_i a fs h1 h2
      split at hc
      · rename_i fl hf
        split at hc
        · rename_i s hs
          split at hc
          · cases hc
          · rename_i h0
            cases hc
            have hv := rho1 hρ h1
            simp only [PK.ev] at he
            cases ha : ρ a <;> simp only [ha] at he <;> (try cases he; done)
            rw [ha] at hv
            cases he
            obtain ⟨L, hL, e⟩ := hv.ptr_inv
            refine ⟨_, .ptr hL, ?_⟩
            simp only [execOp]
            refine val_of ?_
            rw [e]
            simp [Instr.fieldAt, run_und h2, hf, Instr.sureAddr, fieldPlace, run_sizeOf hs, h0, add_lit, Nat.add_assoc]
        · cases hc
      · cases hc
    · cases hc
  | field t x f =>
    simp only [cOp] at hc
    split at hc
    · rename_i a fs h1 h2
      split at hc
      · rename_i fl hf
        split at hc
        · rename_i s g hs
          cases hc
          have hv := rho1 hρ h1
          simp only [PK.ev] at he
          cases ha : ρ a <;> simp only [ha] at he <;> (try cases he; done)
          rw [ha] at hv
          obtain ⟨ds, e, hds⟩ := hv.agg_inv
          obtain ⟨d, hd, hr⟩ := part_sound (w := w) hs hds he
          refine ⟨d, hd, ?_⟩
          simp only [execOp]
          refine val_of ?_
          rw [e]
          simp [Instr.field, run_und h2, hf, asAgg, hr]
        · cases hc
      · cases hc
    · cases hc
  | indexAddr t x i =>
    simp only [cOp] at hc
    split at hc
    · rename_i a b e h1 h2 h3
      split at hc
      · rename_i s hs
        cases hc
        have hv := rho1 hρ h1
        have hw := rho1 hρ h2
        simp only [PK.ev] at he
        cases ha : ρ a <;> simp only [ha] at he <;> (try cases he; done)
        cases hb : ρ b <;> simp only [hb] at he <;> (try cases he; done)
        rename_i b' o es len kk j
        rw [ha] at hv; rw [hb] at hw
        split at he
        · rename_i hcond
          obtain ⟨hes, hj0, hj1⟩ := hcond
          subst hes
          cases he
          obtain ⟨L, o', cap, hL, ho, hc', hn, hp, e'⟩ := hv.sl_inv
          have ho' := ho (by omega)
          subst ho'
          refine ⟨_, .ptr hL, ?_⟩
          simp only [execOp]
          refine val_of ?_
          rw [e', hw.int_inv]
          simp [Instr.indexAt, asIntOf, run_und h3, hj0, hj1, run_sizeOf hs, add_lit, Nat.add_assoc]
        · cases he
      · cases hc
    · rename_i a b k' e h1 h2 h3
      split at hc
      · rename_i s hs
        cases hc
        have hv := rho1 hρ h1
        have hw := rho1 hρ h2
        simp only [PK.ev] at he
        cases ha : ρ a <;> simp only [ha] at he <;> (try cases he; done)
        cases hb : ρ b <;> simp only [hb] at he <;> (try cases he; done)
        rename_i b' o kk j
        rw [ha] at hv; rw [hb] at hw
        split at he
        · rename_i hcond
          obtain ⟨hj0, hj1⟩ := hcond
          cases he
          obtain ⟨L, hL, e'⟩ := hv.ptr_inv
          refine ⟨_, .ptr hL, ?_⟩
          simp only [execOp]
          refine val_of ?_
          rw [e', hw.int_inv]
          simp [Instr.indexAt, asIntOf, run_und h3, hj0, hj1, run_sizeOf hs, add_lit, Nat.add_assoc, Instr.sureAddr]
        · cases he
      · cases hc
    · cases hc
  | index t x i =>
    simp only [cOp] at hc
    split at hc
    · rename_i a b h1 h2 h3
      cases hc
      have hv := rho1 hρ h1
      have hw := rho1 hρ h2
      simp only [PK.ev] at he
      cases ha : ρ a <;> simp only [ha] at he <;> (try cases he; done)
      cases hb : ρ b <;> simp only [hb] at he <;> (try cases he; done)
      rename_i s kk j
      rw [ha] at hv; rw [hb] at hw
      split at he
      · rename_i hj
        obtain ⟨c, hc', rfl⟩ := Option.map_eq_some_iff.1 he
        refine ⟨_, .int _ _, ?_⟩
        simp only [execOp]
        refine val_of ?_
        rw [hv.str_inv, hw.int_inv]
        have hg : (⟨s.toArray⟩ : ByteArray)[j.toNat]? = some c := by
          have h1 : j.toNat < s.length := by
            rcases Nat.lt_or_ge j.toNat s.length with h | h
            · exact h
            · rw [List.getElem?_eq_none h] at hc'; cases hc'
          have h2 : j.toNat < (⟨s.toArray⟩ : ByteArray).size := by rw [bytes_size]; exact h1
          rw [getElem?_pos (⟨s.toArray⟩ : ByteArray) j.toNat h2]
          rw [List.getElem?_eq_getElem h1] at hc'
          cases hc'
          rfl
        simp [Instr.index, asIntOf, run_und h3, hj, hg]
      · cases he
    · rename_i a b k' e h1 h2 h3
      split at hc
      · rename_i s g hs
        cases hc
        obtain ⟨d, hd, hr⟩ := idxAgg_sound (w := w) h3 hs (rho1 hρ h1) (rho1 hρ h2) he
        exact ⟨d, hd, by simp only [execOp]; exact val_of hr⟩
      · cases hc
    · cases hc
  | typeAssert x xt t ok =>
    cases ok with
    | true => simp only [cOp] at hc; cases hc
    | false =>
      simp only [cOp] at hc
      split at hc
      · cases hc
      · rename_i a u hni h1 h2
        cases hc
        have hv := rho1 hρ h1
        simp only [PK.ev] at he
        cases ha : ρ a <;> simp only [ha] at he <;> (try cases he; done)
        rw [ha] at hv
        split at he
        · rename_i ht
          cases he
          subst ht
          obtain ⟨z, e, hz⟩ := hv.iface_inv
          refine ⟨z, hz, ?_⟩
          simp only [execOp]
          refine val_of ?_
          rw [e]
          simp only [Instr.typeAssert, Sem.run_bind, run_und h2, Result.andThen_ok]
          cases u <;> first | simp | exact absurd rfl (hni _ _)
        · cases he
      · cases hc
  | extract x i =>
    simp only [cOp] at hc
    obtain ⟨a, hx, hk⟩ := Option.map_eq_some_iff.1 hc
    cases hk
    have hv := rho1 hρ hx
    simp only [PK.ev] at he
    cases ha : ρ a <;> simp only [ha] at he <;> (try cases he; done)
    rw [ha] at hv
    obtain ⟨ds, e, hds⟩ := hv.tup_inv
    obtain ⟨d, hd, hr⟩ := hds.get he
    refine ⟨d, hr, ?_⟩
    simp only [execOp]
    refine val_of ?_
    rw [e]
    simp [Instr.extract, hd]
  | call c =>
    obtain ⟨cal, args, ts⟩ := c
    simp only [cOp] at hc
    split at hc
    · rename_i _ b
      obtain ⟨d, hd, hr⟩ := builtin_sound (w := w) (type := type) hρ hc he
      exact ⟨d, hd, by simp only [execOp, resolve]; simpa [invoke] using hr _⟩
    · split at hc
      · split at hc
        · split at hc
          · obtain ⟨a, _, e⟩ := Option.map_eq_some_iff.1 hc; cases e
          · cases hc
        · obtain ⟨a, _, e⟩ := Option.map_eq_some_iff.1 hc; cases e
      · cases hc
    · split at hc <;> cases hc
    · cases hc
  | makeMap t r => cases r <;> simp only [cOp] at hc <;> cases hc
  | _ =>
    exfalso
    simp only [cOp] at hc
    repeat' (first | (cases hc; done) | (obtain ⟨_, _, e⟩ := Option.map_eq_some_iff.1 hc; cases e; done) | split at hc)
end Mir
