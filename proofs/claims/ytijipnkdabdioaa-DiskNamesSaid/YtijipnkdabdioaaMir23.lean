/- The mirror, part 23: ranging over functions; functions; the theorem. -/
import Derived.Test.YtijipnkdabdioaaMir22
set_option linter.unusedSimpArgs false
set_option linter.unusedVariables false
namespace Mir
open Go
variable {P : Program} {n base : Nat} {μ : Mu} {h : H} {w : World} {b : Frame} {cs : List Frame}

/-- A block that isn't the mirror's. -/
theorem St.extra (r : R P μ h w) (x : Obj) : St P μ h w μ h (w.alloc x) := by
  refine ⟨.refl _, ⟨r.fin, fun b o hb => ?_, r.inj, r.glob⟩, by simp, fun B hB _ => alloc_old w x hB, fun B hB => .inl hB, fun b hb => .inl hb, rfl, rfl, rfl⟩
  obtain ⟨L, z, e1, e2, e3⟩ := r.at_ b o hb
  exact ⟨L, z, e1, by rw [alloc_old w x (Array.getElem?_eq_some_iff.1 e2).1]; exact e2, e3⟩
/-- A piece of memory is done with. -/
theorem St.drop (r : R P μ h w) {l : Nat} {o : AObj} {L : Loc} (hl : h l = some o) (hro : o.ro = false) (hL : μ l = some L) {w' : World} {x : Obj} (hat : At w w' L.B x) : St P μ h w μ (hset h l none) w' := by
  have hs : Sub (hset h l none) h := fun b o hb => by
    by_cases e : b = l
    · subst e; simp [hset] at hb
    · simpa [hset, e] using hb
  refine ⟨.refl _, ⟨r.fin, fun b o' hb => ?_, fun b b' o o' L L' h1 h2 => r.inj b b' o o' L L' (hs _ _ h1) (hs _ _ h2), r.glob⟩, by rw [hat.size]; exact Nat.le_refl _, fun B hB hO => hat.else_ B fun e => hO ⟨l, o, L, hl, hro, hL, e.symm⟩,
    fun B ⟨b, o, L, hb, q⟩ => .inl ⟨b, o, L, hs _ _ hb, q⟩, fun b hb => .inl fun e => ?_, hat.rest.1, hat.rest.2.1, hat.rest.2.2⟩
  · have hne : b ≠ l := fun e => by subst e; simp [hset] at hb
    obtain ⟨L', z, e1, e2, e3⟩ := r.at_ b o' (hs _ _ hb)
    exact ⟨L', z, e1, by rw [hat.else_ _ fun e => r.inj l b o o' L L' hl (hs _ _ hb) (Ne.symm hne) hL e1 hro e.symm]; exact e2, e3⟩
  · by_cases e' : b = l
    · subst e'; simp [hset] at hb
    · simp [hset, e', e] at hb

theorem run_getLoop {l : Nat} {r : Loop} (hx : w.heap[l]? = some (.loop r)) : (Instr.getLoop l).run P w = .ok r w := by
  simp [Instr.getLoop, getObj, Sem.run, hx, Sem.run_bind]
theorem run_setLoop {l : Nat} {r : Loop} {y : Obj} (hx : w.heap[l]? = some (.loop r)) : (setObj l y).run P w = .ok () { w with heap := w.heap.setIfInBounds l y } := by simp [setObj, Sem.run, hx]
theorem DR.lt {ds : List (V × List V)} {Ds : List Deferred} (hD : DR μ base w ds Ds) : ∀ d ∈ Ds, d.target ≠ .collected w.heap.size := by
  induction hD with
  | nil => intro d hd; cases hd
  | call a b c _ ih =>
    intro d hd
    rcases List.mem_cons.1 hd with rfl | hd
    · intro e; cases e
    · exact ih d hd
  | mark a hb c _ ih =>
    intro d hd
    rcases List.mem_cons.1 hd with rfl | hd
    · intro e
      cases e
      rw [Array.getElem?_eq_none (Nat.le_refl _)] at hb; cases hb
    · exact ih d hd

theorem step_rangeFunc_value {a : Act} {k : List Item} {g : Operand} {ps : Array Tmp} {assign body : Code} {l : Nat} {mk : List Deferred} {w₁ w₁' w₂ : World} {d : Deferred} {v : Value}
    (he : (Instr.enterLoop b.fn a.tmps ps assign body b.roundOf).run P w = .ok (l, mk) w₁)
    (hres : (resolve a.eval (rangeCall g l) 0).run P w₁ = .ok d w₁') (hinv : (invoke d.target d.args).run P w₁' = .ok (.value v) w₂) :
    step P (lone (b.atR a (.code (.rangeFunc g ps assign body) :: k)) cs w) =
      .next (lone (b.atR { a with defers := mk ++ a.defers } (.endRangeFunc l :: k)) cs w₂) :=
  step_lone_go (by
    have hev := Frame.eval_atR b { a with defers := mk ++ a.defers } (.inRangeFunc l :: k)
    simp only [Frame.atR] at hev
    have hres' : Sem.run P (resolve ({ tmps := a.tmps, defers := mk ++ a.defers } : Act).eval { callee := .value g, args := #[.const (.func (.yield l) #[] #[])], argTypes := #[] } 0) w₁ = .ok d w₁' := hres
    simp [stepG, stepG.exec, Frame.atR, Sem.runT_eq, he, GStep.bare_after, stepG.apply, hev, Sem.run_bind, hres', hinv, Result.andThen, Frame.finish])

theorem range_ok : RangeOk P := by
  intro n base b cs f ps as bd ic hc hro _ k a h act μ w Q hbase s hE
  simp only [comp] at hc
  split at hc
  · rename_i f' ca cb h1 h2 h3
    split at hc
    · rename_i hchk
      cases hc
      obtain ⟨hda, hdb, hps⟩ := hchk
      -- the record, the block
      have hst1 : St P μ h w μ h (w.alloc (.deferred (some []))) := St.extra s.rel _
      have hsz : act.tmps.size = n := s.t.1
      let r : Loop := { state := .ready, pending := none, fn := b.fn, tmps := act.tmps, params := ps, assign := as, body := bd, defers := w.heap.size }
      obtain ⟨l, hl1, hl2, _, hst2⟩ := St.new hst1.rel (.loop r) (.loop a.t ps.toList ca cb .ready none) 0 (fun l hl => by
        have hle : μ.le (fun i => if i = l then some ⟨(w.alloc (.deferred (some []))).heap.size, 0, 0⟩ else μ i) := fun b L e => by
          have : b ≠ l := fun e' => by subst e'; rw [hl] at e; cases e
          simp [this, e]
        refine ⟨r, rfl, rfl, rfl, by simp [r], fun i => (s.t.2 i).mono hle, fun p hp => ?_, by show comp P act.tmps.size as = _; rw [hsz]; exact h2, by show comp P act.tmps.size bd = _; rw [hsz]; exact h3, hda, hdb⟩
        show p < act.tmps.size
        rw [hsz]
        have := List.all_eq_true.1 hps p hp
        simpa using this)
      have hst12 := hst1.trans hst2
      generalize hμ1 : (fun i => if i = l then some (⟨(w.alloc (.deferred (some []))).heap.size, 0, 0⟩ : Loc) else μ i) = μ1 at hst2 hst12
      have hLl : μ1 l = some ⟨(w.alloc (.deferred (some []))).heap.size, 0, 0⟩ := by rw [← hμ1]; simp
      have hB : (w.alloc (.deferred (some []))).heap.size = w.heap.size + 1 := by simp
      have henter : (Instr.enterLoop b.fn act.tmps ps as bd b.roundOf).run P w = .ok (w.heap.size + 1, [{ target := .collected w.heap.size, args := #[] }]) ((w.alloc (.deferred (some []))).alloc (.loop r)) := by
        rw [hro, ← hB]; rfl
      -- the activation, with the mark
      have s1 : SR P n base μ1 a (hadd h l (.loop a.t ps.toList ca cb .ready none)) { act with defers := [{ target := .collected w.heap.size, args := #[] }] ++ act.defers } ((w.alloc (.deferred (some []))).alloc (.loop r)) := by
        have s0 := s.step hst12
        refine ⟨s0.rel, s0.t, .mark hbase ?_ (s.d.lt) s0.d⟩
        rw [alloc_old _ _ (by rw [hB]; omega)]
        exact alloc_new w _
      simp only [E] at hE
      have hEl := hE l hl2
      cases hfe : f'.ev a.t <;> simp only [hfe] at hEl <;> (try exact hEl.elim)
      rename_i g first cap
      have hfv := rho1 s.rho h1
      rw [hfe] at hfv
      obtain ⟨fs, cps, e, q1, q2⟩ := hfv.fn_inv
      have hran := hEl μ1 _ (fs ++ [.func (.yield (w.heap.size + 1)) #[] #[]] ++ cps) (((VRs.mono hst12.le q1).append (.cons (by have := VR.yield hLl; rw [hB] at this; exact this) .nil)).append (VRs.mono hst12.le q2)) s1.rel
      have hres : (resolve act.eval (rangeCall f (w.heap.size + 1)) 0).run P ((w.alloc (.deferred (some []))).alloc (.loop r)) = .ok { target := .fn (.func g) cps.toArray, args := fs.toArray ++ #[.func (.yield (w.heap.size + 1)) #[] #[]] } ((w.alloc (.deferred (some []))).alloc (.loop r)) := by
        have hm : (#[Operand.const (.func (.yield (w.heap.size + 1)) #[] #[])].map act.eval) = #[.func (.yield (w.heap.size + 1)) #[] #[]] := by simp [Act.eval]
        simp only [resolve, rangeCall, e, Deferred.ofValue, Sem.run_pure, hm]
      have hargs : (fs ++ [Value.func (.yield (w.heap.size + 1)) #[] #[]] ++ cps).toArray = (fs.toArray ++ #[.func (.yield (w.heap.size + 1)) #[] #[]]) ++ cps.toArray := by simp
      rw [hargs] at hran
      -- the call
      have hcall : ∃ d w', After P μ1 (hadd h l (.loop a.t ps.toList ca cb .ready none)) ((w.alloc (.deferred (some []))).alloc (.loop r)) (fun _ h' => ∃ t ps as bd st pd, h' l = some (.loop t ps as bd st pd) ∧ st ≠ .busy ∧ Q (pd.getD .nm) a (hset h' l none)) d w' ∧
          Steps P (lone (b.atR act (.code (.rangeFunc f ps as bd) :: k)) cs w) (lone (b.atR { act with defers := [{ target := .collected w.heap.size, args := #[] }] ++ act.defers } (.endRangeFunc (w.heap.size + 1) :: k)) cs w') := by
        rcases hran with ⟨d, w', hr, ha⟩ | ⟨hr, hent⟩
        · exact ⟨d, w', ha, .one (step_rangeFunc_value henter hres hr)⟩
        · obtain ⟨d, w', fr, ha, hs, hfn, hk, hm, hd, fn, hff, hres'⟩ := hent .normal (.inl rfl) (b.atR { act with defers := [{ target := .collected w.heap.size, args := #[] }] ++ act.defers } (.inRangeFunc (w.heap.size + 1) :: k) :: cs)
          refine ⟨d, w', ha, Steps.head (stepR_rangeFunc henter hres hr) (Steps.trans hs (.one ?_))⟩
          rw [← finish_atR_inRangeFunc (w.heap.size + 1) d]
          exact step_leave_returned ⟨hm, hd, hk, fn, hff, hres'⟩
      obtain ⟨d, w', ⟨v, h', μ', ⟨t, ps', as', bd', st, pd, hl', hst', hQ⟩, _, hst3⟩, hs⟩ := hcall
      -- the end
      have hLl' := hst3.le l _ hLl
      obtain ⟨L', x, e1, e2, e3⟩ := hst3.rel.at_ l _ hl'
      rw [hLl'] at e1; cases e1
      obtain ⟨r', rfl, g1, g2, g3⟩ := e3
      have hlt : w.heap.size + 1 < w'.heap.size := (Array.getElem?_eq_some_iff.1 (by rw [hB] at e2; exact e2)).1
      have e2' : w'.heap[w.heap.size + 1]? = some (.loop r') := by rw [hB] at e2; exact e2
      have hbusy : (r'.state == .busy) = false := by
        cases st
        · simp only [LSt.is] at g1; rw [g1]; rfl
        · exact absurd rfl hst'
        · simp only [LSt.is] at g1; rw [g1]; rfl
      have hend : (Instr.endLoop (w.heap.size + 1)).run P w' = .ok r'.pending { w' with heap := w'.heap.setIfInBounds (w.heap.size + 1) (.loop { r' with state := .exhausted }) } := by
        simp only [Instr.endLoop, Sem.run_bind, run_getLoop e2', Result.andThen_ok, hbusy, Bool.false_eq_true, if_false, Sem.run_pure, run_setLoop e2']
      have hat := at_setObj (w := w') (o := .loop r') hlt (.loop { r' with state := .exhausted })
      rw [← hB] at hat
      have hst4 := St.drop hst3.rel hl' rfl hLl' hat
      have hstall := (hst12.trans hst3).trans hst4
      have sfin := (s1.step hst3).step hst4
      have hs2 : Steps P (lone (b.atR act (.code (.rangeFunc f ps as bd) :: k)) cs w) (lone (b.atR { act with defers := [{ target := .collected w.heap.size, args := #[] }] ++ act.defers } ((r'.pending.map Item.code).toList ++ k)) cs { w' with heap := w'.heap.setIfInBounds (w.heap.size + 1) (.loop { r' with state := .exhausted }) }) :=
        Steps.trans hs (.one (stepR_endRangeFunc hend))
      rw [← hB] at hs2
      revert hs2 hstall sfin
      generalize ({ w' with heap := w'.heap.setIfInBounds (w.alloc (.deferred (some []))).heap.size (.loop { r' with state := .exhausted }) } : World) = wf
      intro hstall sfin hs2
      refine ⟨pd.getD .nm, a, hset h' l none, _, μ', _, hQ, ?_, hstall, sfin⟩
      cases pd with
      | none => simp only [Ex.is] at g2; rw [g2] at hs2; exact hs2
      | some e =>
        cases e with
        | nm => exact g2.elim
        | ret => simp only [Ex.is] at g2; rw [g2] at hs2; exact ⟨k, hs2⟩
        | exit id => simp only [Ex.is] at g2; rw [g2] at hs2; exact ⟨k, rfl, hs2⟩
    · cases hc; exact hE.elim
  · cases hc; exact hE.elim
end Mir
