/- The mirror, part 22: deferred calls, results. -/
import Derived.Test.YtijipnkdabdioaaMir21
set_option linter.unusedSimpArgs false
set_option linter.unusedVariables false
namespace Mir
open Go
variable {P : Program} {n base : Nat} {μ : Mu} {h : H} {w : World}

/-! ### Results -/
def resGet (tmps : Array Value) : ResultVar → Sem Value
  | .tmp t => pure (tmps.getD t Go.undef)
  | .cell a t => do loadVar t (← asAddr (tmps.getD a Go.undef))
theorem results_list {t : Tm} {tmps : Array Value} (r : R P μ h w) (ht : TR μ n t tmps) : ∀ (rs : List ResultVar) (l : List Res) (vs : List V), cRes P n rs = some l → allSome (l.map (resOf t h)) = some vs →
    ∃ ds, VRs μ vs ds ∧ (rs.mapM (resGet tmps)).run P w = .ok ds w
  | [], l, vs, hc, hs => by
    simp only [cRes] at hc; cases hc
    simp only [List.map_nil, allSome] at hs; cases hs
    exact ⟨[], .nil, by simp⟩
  | .tmp i :: rs, l, vs, hc, hs => by
    simp only [cRes] at hc
    split at hc
    · rename_i l' hl
      split at hc
      · cases hc
        simp only [List.map_cons, resOf] at hs
        have key : ∃ v vs', t i = v ∧ allSome (l'.map (resOf t h)) = some vs' ∧ vs = v :: vs' := by
          cases hti : t i <;> simp only [hti, allSome] at hs <;> (try cases hs; done)
          all_goals
            split at hs
            · rename_i vs' hvs
              cases hs
              exact ⟨_, vs', rfl, hvs, rfl⟩
            · cases hs
        obtain ⟨v, vs', h1, h2, rfl⟩ := key
        obtain ⟨ds, hv, hr⟩ := results_list r ht rs l' vs' hl h2
        have := ht.2 i
        rw [h1] at this
        refine ⟨tmps.getD i Go.undef :: ds, .cons this hv, ?_⟩
        simp only [List.mapM_cons, resGet, Sem.run_bind, Sem.run_pure, Result.andThen_ok, hr]
      · cases hc
    · cases hc
  | .cell i ty :: rs, l, vs, hc, hs => by
    simp only [cRes] at hc
    split at hc
    · rename_i l' s g hl hz
      split at hc
      · cases hc
        simp only [List.map_cons, resOf] at hs
        cases hti : t i <;> simp only [hti, allSome] at hs <;> (try cases hs; done)
        rename_i bb o
        cases hb : h bb with
        | none => simp [hb, allSome] at hs
        | some ob =>
          cases ob <;> simp only [hb, allSome] at hs <;> (try cases hs; done)
          rename_i cs ro
          cases hp : partOf o s g cs with
          | none => simp [hp, allSome] at hs
          | some v =>
            simp only [hp, allSome] at hs
            split at hs
            · rename_i vs' hvs
              cases hs
              obtain ⟨ds, hv, hr⟩ := results_list r ht rs l' vs' hl hvs
              have hti' := ht.2 i
              rw [hti] at hti'
              obtain ⟨L, hL, e⟩ := hti'.ptr_inv
              obtain ⟨d, hd, hrd⟩ := loadVar_sound r hz hb hL hp
              refine ⟨d :: ds, .cons hd hv, ?_⟩
              simp only [List.mapM_cons, resGet, Sem.run_bind, e, asAddr, Result.andThen_ok, hrd, hr, Sem.run_pure]
            · cases hs
      · cases hc
    · cases hc
theorem results_sound {t : Tm} {tmps : Array Value} {fn : Func} {l : List Res} {vs : List V} (r : R P μ h w) (ht : TR μ n t tmps) (hc : cRes P n fn.results.toList = some l) (hs : allSome (l.map (resOf t h)) = some vs) :
    ∃ d, VR μ (packed vs) d ∧ (results fn tmps).run P w = .ok d w := by
  obtain ⟨ds, hv, hr⟩ := results_list r ht _ _ _ hc hs
  have hrun : (fn.results.mapM (resGet tmps)).run P w = .ok ds.toArray w := by
    rw [Array.mapM_eq_mapM_toList]
    simp [hr]
  have e : results fn tmps = (do let vs ← fn.results.mapM (resGet tmps); pure (if h : vs.size = 1 then vs[0] else .tuple vs)) := by
    unfold results
    congr 1
  rw [e]
  simp only [Sem.run_bind, hrun, Result.andThen_ok, Sem.run_pure]
  have hl := hv.len
  cases hv with
  | nil => exact ⟨_, VR.mkTup (ds := []) .nil, rfl⟩
  | cons h1 h2 =>
    cases h2 with
    | nil => exact ⟨_, h1, rfl⟩
    | cons h3 h4 => exact ⟨_, VR.mkTup (.cons h1 (.cons h3 h4)), by simp⟩

/-! ### Deferred calls -/
/-- The block of a loop's deferred calls is done with. -/
theorem St.mark {μ0 : Mu} {h0 : H} {w0 : World} (s : St P μ0 h0 w0 μ h w) {r : Nat} {x : Option (List Deferred)} (hr : w.heap[r]? = some (.deferred x)) (hb : w0.heap.size ≤ r) (y : Option (List Deferred)) :
    St P μ0 h0 w0 μ h { w with heap := w.heap.setIfInBounds r (.deferred y) } := by
  have hne : ∀ b o L, h b = some o → μ b = some L → L.B ≠ r := fun b o L hb hL e => by
    obtain ⟨L', z, e1, e2, e3⟩ := s.rel.at_ b o hb
    rw [hL] at e1; cases e1
    rw [e, hr] at e2; cases e2
    exact OR.no_defer e3
  refine ⟨s.le, ⟨s.rel.fin, fun b o hb => ?_, s.rel.inj, s.rel.glob⟩, by simp; exact s.size, fun B hB ho => ?_, s.own, s.fresh, s.os, s.tape, s.output⟩
  · obtain ⟨L, z, e1, e2, e3⟩ := s.rel.at_ b o hb
    refine ⟨L, z, e1, ?_, e3⟩
    rw [Array.getElem?_setIfInBounds_ne (Ne.symm (hne b o L hb e1))]
    exact e2
  · rw [Array.getElem?_setIfInBounds_ne (by omega)]
    exact s.kept B hB ho

theorem step_unwind_value {fr : Frame} {cs : List Frame} {w' : World} {d : Deferred} {ds : List Deferred} {v : Value} (hm : fr.mode = .returning) (hd : fr.defers = d :: ds) {fv : Go.Fn} {cap : Array Value} (ht : d.target = .fn fv cap)
    (hi : (invoke d.target d.args).run P w = .ok (.value v) w') : step P (lone fr cs w) = .next (lone { fr with defers := ds } cs w') := by
  obtain ⟨t, a⟩ := d
  simp only at ht hi
  subst ht
  refine step_lone_go ?_
  simp [stepG, unwind, callDeferred, hm, hd, hi]
theorem step_unwind_mark {fr : Frame} {cs : List Frame} {ds : List Deferred} {r : Nat} (hm : fr.mode = .returning) (hd : fr.defers = { target := .collected r, args := #[] } :: ds) (hr : w.heap[r]? = some (.deferred (some []))) :
    step P (lone fr cs w) = .next (lone { fr with defers := ds } cs { w with heap := w.heap.setIfInBounds r (.deferred none) }) := by
  refine step_lone_go ?_
  have : (Instr.takeDeferred r).run P w = .ok [] { w with heap := w.heap.setIfInBounds r (.deferred none) } := by
    simp [Instr.takeDeferred, getObj, setObj, Sem.run, Sem.run_bind, hr]
  simp [stepG, unwind, hm, hd, this]

theorem DR.unmark {r : Nat} {y : Obj} {ds : List (V × List V)} {Ds : List Deferred} (hD : DR μ base w ds Ds) (hn : ∀ d ∈ Ds, d.target ≠ .collected r) : DR μ base { w with heap := w.heap.setIfInBounds r y } ds Ds := by
  induction hD with
  | nil => exact .nil
  | call a b c _ ih => exact .call a b c (ih fun d hd => hn d (List.mem_cons_of_mem _ hd))
  | mark a b c _ ih =>
    rename_i q _ _ _
    have hq : r ≠ q := fun e => hn _ (List.mem_cons_self ..) (by rw [e])
    refine .mark a ?_ c (ih fun d hd => hn d (List.mem_cons_of_mem _ hd))
    show (w.heap.setIfInBounds r y)[q]? = _
    rw [Array.getElem?_setIfInBounds_ne hq]; exact b
theorem unwind_steps {μ0 : Mu} {h0 : H} {w0 : World} (hbase : base = w0.heap.size) {K : H → Prop} : ∀ (Ds : List Deferred) {ds : List (V × List V)} {μ : Mu} {h : H} {w : World} (fr : Frame) (cs : List Frame), DR μ base w ds Ds → St P μ0 h0 w0 μ h w → fr.mode = .returning → fr.defers = Ds → dfrE (Snd P) ds h K →
    ∃ μ' h' w', K h' ∧ Steps P (lone fr cs w) (lone { fr with defers := [] } cs w') ∧ μ.le μ' ∧ St P μ0 h0 w0 μ' h' w' := by
  intro Ds
  induction Ds with
  | nil =>
    intro ds μ h w fr cs hD s hm hd hE
    cases hD
    refine ⟨μ, h, w, hE, ?_, .refl _, s⟩
    have : ({ fr with defers := [] } : Frame) = fr := by rw [← hd]
    rw [this]
    exact Steps.refl P _
  | cons D Ds ih =>
    intro ds μ h w fr cs hD s hm hd hE
    cases hD with
    | call h1 h2 h3 h4 =>
      rename_i f first cap args as cs' args' ds
      simp only [dfrE] at hE
      have hran := hE μ w (as ++ args' ++ cs') ((h1.append h3).append h2) s.rel
      have hargs : (as ++ args' ++ cs').toArray = (as.toArray ++ args'.toArray) ++ cs'.toArray := by simp
      rw [hargs] at hran
      rcases hran with ⟨v, w', hr, v', h', μ', hK, hv, hst⟩ | ⟨hr, hent⟩
      · obtain ⟨μ2, h2', w2, hK2, hs2, hle2, hst2⟩ := ih { fr with defers := Ds } cs (h4.mono hst s.rel) (s.trans hst) hm rfl hK
        exact ⟨μ2, h2', w2, hK2, Steps.head (step_unwind_value hm hd rfl hr) hs2, hst.le.trans hle2, hst2⟩
      · obtain ⟨v, w', fr1, ⟨v', h', μ', hK, hv, hst⟩, hs, hfn, hk, hmo, hde, hres⟩ := hent .deferred (.inr rfl) ({ fr with defers := Ds } :: cs)
        have hback := step_going_returned (c := { fr with defers := Ds }) (cs := cs) hk ⟨hmo, hde, hres⟩
        have hset : settle ({ fr with defers := Ds } : Frame).mode = .returning := by show settle fr.mode = _; rw [hm]; rfl
        rw [hset] at hback
        have hfr : ({ ({ fr with defers := Ds } : Frame) with mode := .returning } : Frame) = { fr with defers := Ds } := by
          rw [← hm]
        rw [hfr] at hback
        obtain ⟨μ2, h2', w2, hK2, hs2, hle2, hst2⟩ := ih { fr with defers := Ds } cs (h4.mono hst s.rel) (s.trans hst) hm rfl hK
        refine ⟨μ2, h2', w2, hK2, Steps.head (step_defer (by rw [hm]; simp) hd rfl hr) (Steps.trans hs (Steps.head hback hs2)), hst.le.trans hle2, hst2⟩
    | mark h1 h2 h3 h4 =>
      rename_i r
      have s' := s.mark h2 (by omega) none
      have hD' : DR μ base { w with heap := w.heap.setIfInBounds r (.deferred none) } ds Ds := by
        exact h4.unmark h3
      obtain ⟨μ2, h2', w2, hK2, hs2, hle2, hst2⟩ := ih { fr with defers := Ds } cs hD' s' hm rfl hE
      exact ⟨μ2, h2', w2, hK2, Steps.head (step_unwind_mark hm hd h2) hs2, hle2, hst2⟩
end Mir
