/- The mirror, part 24: functions, rounds; THE THEOREM. -/
import Derived.Test.YtijipnkdabdioaaMir23
set_option linter.unusedSimpArgs false
set_option linter.unusedVariables false
namespace Mir
open Go
variable {P : Program} {n base : Nat} {μ : Mu} {h : H} {w : World} {b : Frame} {cs : List Frame}

/-- What the mirror's program must be. -/
structure PgOk (P : Program) (pg : Pg) : Prop where
  mixed : P.follows .mixedOrders = true
  fns : ∀ f g, pg.fns f = some g → ∃ fn, P.funcs[f]? = some fn ∧ compF P fn = some g ∧ fn.name ≠ "runtime.NumGoroutine"
  known : ∀ f args v, pg.known f args = some v → ∀ μ h w args', VRs μ args args' → R P μ h w → Ran P f args'.toArray w (After P μ h w fun v' h' => v' = v ∧ h' = h)

theorem compF_spec {fn : Func} {g : Fn} (hc : compF P fn = some g) : ∃ c, fn.body = some c ∧ comp P fn.ntmps c = some g.body ∧ cRes P fn.ntmps fn.results.toList = some g.res ∧ g.n = fn.ntmps := by
  unfold compF at hc
  split at hc
  · cases hc
  · rename_i c hb
    split at hc
    · rename_i b r h1 h2
      cases hc
      exact ⟨c, hb, h1, h2, rfl⟩
    · cases hc

theorem start_tr {args : List V} {args' : List Value} (hv : VRs μ args args') (hl : args.length ≤ n) : TR μ n (start args) (args'.toArray ++ Array.replicate (n - args'.toArray.size) Go.undef) := by
  have hlen := hv.len
  refine ⟨by simp; omega, fun i => ?_⟩
  rw [Array.getD_eq_getD_getElem?]
  rcases Nat.lt_or_ge i args.length with hi | hi
  · obtain ⟨d, hd, hr⟩ := hv.get (List.getElem?_eq_getElem hi)
    have hi' : i < args'.toArray.size := by simp; omega
    rw [Array.getElem?_append_left hi']
    simp only [start, List.getElem?_eq_getElem hi, Option.getD_some]
    have : args'.toArray[i]? = some d := by simpa using hd
    rw [this]; exact hr
  · simp only [start, List.getElem?_eq_none hi, Option.getD_none]
    have hi' : args'.toArray.size ≤ i := by simp; omega
    rw [Array.getElem?_append_right hi']
    have : ((Array.replicate (n - args'.toArray.size) Go.undef)[i - args'.toArray.size]?).getD Go.undef = Go.undef := by
      rw [Array.getElem?_replicate]
      split <;> rfl
    rw [this]; exact vr_undef

theorem fn_sound {pg : Pg} (ok : PgOk P pg) {f : Nat} {args : List V} {Q : V → H → Prop} (hF : F pg (Snd P) (.fn f) args h Q) : Snd P (.fn f) args h Q := by
  intro μ w args' hv r
  simp only [F] at hF
  rcases hF with ⟨v, hk, hq⟩ | ⟨g, hg, hl, hE⟩
  · exact (ok.known f args v hk μ h w args' hv r).mono fun d w' => After.mono fun v' h' e => by rw [e.1, e.2]; exact hq
  · obtain ⟨fn, hf, hcf, hname⟩ := ok.fns f g hg
    obtain ⟨c, hb, hc, hres, hn⟩ := compF_spec hcf
    refine .inr ⟨?_, fun kind hkind cs => ?_⟩
    · simp [callFunc, hf, hname, hb]
    · let b : Frame := { (default : Frame) with fn := f, kind := kind }
      have hro : b.roundOf = none := rfl
      have henter : Frame.enter P f args'.toArray kind = b.atR { tmps := args'.toArray ++ Array.replicate (fn.ntmps - args'.toArray.size) Go.undef, defers := [] } [.code c] := by
        rw [Frame.atR_of_none hro]
        simp [Frame.enter, Frame.at, hf, hb, b]
      rw [hn] at hl
      have s0 : SR P fn.ntmps w.heap.size μ ⟨start args, []⟩ h { tmps := args'.toArray ++ Array.replicate (fn.ntmps - args'.toArray.size) Go.undef, defers := [] } w := ⟨r, start_tr hv hl, .nil⟩
      obtain ⟨e, a', h', act', μ', w', ⟨he, hdf⟩, ha, hst, hr⟩ := code_sound (b := b) (cs := cs) ok.mixed range_ok c hc (fun hb => absurd hro hb) [] (Nat.le_refl _) s0 hE
      rw [← henter] at ha
      have hfin : ∃ todo, Steps P (lone (Frame.enter P f args'.toArray kind) cs w) (lone { b.atR act' todo with mode := .returning } cs w') := by
        rcases he with rfl | rfl
        · exact ⟨[], Steps.trans ha (.one (stepR_end hro))⟩
        · obtain ⟨k', hs⟩ := ha
          exact ⟨.code .ret :: k', Steps.trans hs (.one (stepR_ret hro))⟩
      obtain ⟨todo, hs⟩ := hfin
      obtain ⟨μ2, h2, w2, ⟨vs, h3, hvs, hsub, hQ⟩, hs2, hle, hst2⟩ := unwind_steps rfl act'.defers { b.atR act' todo with mode := .returning } cs hr.d hst rfl rfl hdf
      obtain ⟨d, hd, hrun⟩ := results_sound hst2.rel (hr.t.mono hle) hres hvs
      exact ⟨d, w2, _, ⟨packed vs, h3, μ2, hQ, hd, hst2.sub hsub⟩, Steps.trans hs hs2, rfl, rfl, rfl, rfl, fn, hf, hrun⟩

theorem params_tr : ∀ (ps : List Nat) (args : List V) (args' : List Value) {t : Tm} {tmps : Array Value}, TR μ n t tmps → (∀ p ∈ ps, p < n) → VRs μ args args' → ps.length = args.length →
    TR μ n (params t ps args) ((ps.zip args').foldl (fun tmps (t, a) => tmps.setIfInBounds t a) tmps)
  | [], args, args', t, tmps, ht, _, _, _ => by simpa [params] using ht
  | p :: ps, args, args', t, tmps, ht, hp, hv, hl => by
    cases hv with
    | nil => simp at hl
    | cons h1 h2 =>
      simp only [params, List.zip_cons_cons, List.foldl_cons]
      exact params_tr ps _ _ (ht.set (hp p (by simp)) h1) (fun q hq => hp q (by simp [hq])) h2 (by simpa using hl)

theorem round_sound {pg : Pg} (ok : PgOk P pg) {l : Nat} {args : List V} {Q : V → H → Prop} (hF : F pg (Snd P) (.round l) args h Q) : Snd P (.round l) args h Q := by
  intro μ w args' L hv r hL
  simp only [F] at hF
  obtain ⟨t, ps, as, bd, pd, hl, hlen, hE⟩ := hF
  obtain ⟨L', x, e1, hx, lr, rfl, g1, g2, g3, g4, g5, g6, g7, g8, g9⟩ := r.at_ l _ hl
  rw [hL] at e1; cases e1
  have hyield : (Instr.yield L.B args'.toArray).run P w = .ok (.round L.B lr.fn ((lr.params.zip args'.toArray).foldl (fun tmps (t, a) => tmps.setIfInBounds t a) lr.tmps) lr.assign lr.body) w := by
    have : args'.toArray.size = lr.params.size := by rw [g3]; simp; rw [← hv.len, hlen]
    simp [Instr.yield, Sem.run_bind, run_getLoop hx, this]
  refine ⟨_, _, _, _, hyield, fun c cs => ?_⟩
  let b : Frame := { (default : Frame) with fn := lr.fn, kind := .normal, roundOf := some L.B }
  have hro : b.roundOf = some L.B := rfl
  have hkd : b.kind = .normal := rfl
  generalize htm : (lr.params.zip args'.toArray).foldl (fun tmps (t, a) => tmps.setIfInBounds t a) lr.tmps = tm
  have hround : Frame.round L.B lr.fn tm lr.assign lr.body .normal = b.atR { tmps := tm, defers := [] } [.code lr.assign, .beginRound, .code lr.body] := by
    simp [Frame.round, Frame.atR, b]
  have htr : TR μ lr.tmps.size (params t ps args) tm := by
    rw [← htm, g3]
    have := params_tr ps args args' (t := t) (tmps := lr.tmps) ⟨rfl, g4⟩ g5 hv hlen
    rw [← Array.foldl_toList]
    simpa using this
  have s0 : SR P lr.tmps.size w.heap.size μ ⟨params t ps args, []⟩ h { tmps := tm, defers := [] } w := ⟨r, htr, .nil⟩
  obtain ⟨e, a1, h1, act1, μ1, w1, ⟨he, _, t1, ps1, as1, bd1, pd1, hl1, hE1⟩, ha, hst, hr⟩ := code_sound (b := b) (cs := c :: cs) ok.mixed range_ok lr.assign g6 (fun _ => g8) [.beginRound, .code lr.body] (Nat.le_refl _) s0 hE
  subst he
  rw [← hround] at ha
  -- the round begins
  have hL1 := hst.le l _ hL
  obtain ⟨L1, x1, e1, hx1, lr1, rfl, k1, k2, k3, k4, k5, k6, k7, k8, k9⟩ := hst.rel.at_ l _ hl1
  rw [hL1] at e1; cases e1
  have hbegin : (Instr.beginRound L.B).run P w1 = .ok () { w1 with heap := w1.heap.setIfInBounds L.B (.loop { lr1 with state := .busy }) } := by
    simp only [LSt.is] at k1
    simp only [Instr.beginRound, Sem.run_bind, run_getLoop hx1, Result.andThen_ok, run_setLoop hx1, k1, Sem.run_pure]
  have hlt1 : L.B < w1.heap.size := (Array.getElem?_eq_some_iff.1 hx1).1
  have hat1 := at_setObj (w := w1) (o := .loop lr1) hlt1 (.loop { lr1 with state := .busy })
  have hst1 : St P μ1 h1 w1 μ1 (hadd h1 l (.loop t1 ps1 as1 bd1 .busy pd1)) { w1 with heap := w1.heap.setIfInBounds L.B (.loop { lr1 with state := .busy }) } :=
    St.put hst.rel hl1 rfl hL1 hat1.size hat1.here hat1.else_ hat1.rest ⟨_, rfl, rfl, k2, k3, k4, k5, k6, k7, k8, k9⟩
  have s1 := hr.step hst1
  have hs1 := Steps.trans ha (.one (stepR_beginRound (k := [.code lr.body]) hro hbegin))
  -- the body
  obtain ⟨e2, a2, h2, act2, μ2, w2, ⟨_, t2, ps2, as2, bd2, st2, pd2, h3, hl2, hsub, hQ⟩, ha2, hst2, hr2⟩ := code_sound (b := b) (cs := c :: cs) ok.mixed range_ok lr.body g7 (fun _ => g9) [] (Nat.le_trans hst.size hst1.size) s1 hE1
  have hL2 := hst2.le l _ hL1
  obtain ⟨L2, x2, e1, hx2, lr2, rfl, q1, q2, q3, q4, q5, q6, q7, q8, q9⟩ := hst2.rel.at_ l _ hl2
  rw [hL2] at e1; cases e1
  have hlt2 : L.B < w2.heap.size := (Array.getElem?_eq_some_iff.1 hx2).1
  have fin : ∀ (jump : Option Code), Ex.is (endPd e2) jump → (endSt e2).is (if jump.isNone then .ready else .done) → jump.isNone = (e2 == .nm) →
      step P (lone (b.atR act2 []) (c :: cs) w2) = step P (lone (b.atR act2 []) (c :: cs) w2) →
      (∀ v w', (Instr.endRound L.B jump).run P w2 = .ok v w' → Steps P (lone (Frame.round L.B lr.fn tm lr.assign lr.body .normal) (c :: cs) w) (lone (c.finish v) cs w')) →
      ∃ v w', After P μ h w Q v w' ∧ Steps P (lone (Frame.round L.B lr.fn tm lr.assign lr.body .normal) (c :: cs) w) (lone (c.finish v) cs w') := by
    intro jump j1 j2 j3 _ hgo
    have hend : (Instr.endRound L.B jump).run P w2 = .ok (.bool jump.isNone) { w2 with heap := w2.heap.setIfInBounds L.B (.loop { lr2 with state := if jump.isNone then .ready else .done, pending := jump }) } := by
      simp only [Instr.endRound, Sem.run_bind, run_getLoop hx2, Result.andThen_ok, run_setLoop hx2, Sem.run_pure]
    have hat2 := at_setObj (w := w2) (o := .loop lr2) hlt2 (.loop { lr2 with state := if jump.isNone then .ready else .done, pending := jump })
    have hst3 : St P μ2 h2 w2 μ2 (hadd h2 l (.loop t2 ps2 as2 bd2 (endSt e2) (endPd e2))) { w2 with heap := w2.heap.setIfInBounds L.B (.loop { lr2 with state := if jump.isNone then .ready else .done, pending := jump }) } :=
      St.put hst2.rel hl2 rfl hL2 hat2.size hat2.here hat2.else_ hat2.rest ⟨_, rfl, j2, j1, q3, q4, q5, q6, q7, q8, q9⟩
    exact ⟨_, _, ⟨.bool (e2 == .nm), h3, μ2, hQ, by rw [j3]; exact .bool _, (((hst.trans hst1).trans hst2).trans hst3).sub hsub⟩, hgo _ _ hend⟩
  cases e2 with
  | nm => exact fin none rfl rfl rfl rfl fun v w' hend => Steps.trans hs1 (Steps.trans ha2 (.one (stepR_round_end hro hkd hend)))
  | ret =>
    obtain ⟨k', hs2⟩ := ha2
    exact fin (some .ret) rfl rfl rfl rfl fun v w' hend => Steps.trans hs1 (Steps.trans hs2 (.one (stepR_round_ret hro hkd hend)))
  | exit id =>
    obtain ⟨k', hk', hs2⟩ := ha2
    exact fin (some (.exit id)) rfl rfl rfl rfl fun v w' hend => Steps.trans hs1 (Steps.trans hs2 (.one (stepR_round_exit hro hkd (by rw [hk']; rfl) hend)))

/-- THE THEOREM: what the mirror says of a call, the model does. -/
theorem sound {pg : Pg} (ok : PgOk P pg) {c : Callee} {args : List V} {Q : V → H → Prop} (hA : AC pg c args h Q) : Snd P c args h Q :=
  hA (Snd P) fun c args h Q hF => by
    cases c with
    | fn f => exact fn_sound ok hF
    | round l => exact round_sound ok hF

/-- A call that the mirror has told, in the model's words. -/
theorem calls_of {pg : Pg} (ok : PgOk P pg) {f : Nat} {g : Fn} (hg : pg.fns f = some g) {args : List V} {args' : List Value} {Q : V → H → Prop} (hA : AC pg (.fn f) args h Q) (hv : VRs μ args args') (r : R P μ h w) :
    Calls P f args'.toArray w fun e w' => ∃ d, e = .returned d ∧ After P μ h w Q d w' := by
  obtain ⟨fn, hf, hcf, hname⟩ := ok.fns f g hg
  obtain ⟨c, hb, _⟩ := compF_spec hcf
  rcases sound ok hA μ w args' hv r with ⟨v, w', hr, _⟩ | ⟨_, hent⟩
  · exfalso
    simp [callFunc, hf, hname, hb] at hr
  · intro cs
    obtain ⟨v, w', fr, hR, hs, hfn, hk, hm, hd, fn', hf', hres⟩ := hent .normal (.inl rfl) cs
    exact ⟨.returned v, w', fr, ⟨v, rfl, hR⟩, hs, hfn, hm, hd, hk, fn', hf', hres⟩
end Mir
