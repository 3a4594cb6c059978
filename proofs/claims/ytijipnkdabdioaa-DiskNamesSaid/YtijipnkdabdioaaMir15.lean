/- The mirror, part 15: operations on the machine. -/
import Derived.Test.YtijipnkdabdioaaMir14
set_option linter.unusedSimpArgs false
set_option linter.unusedVariables false
namespace Mir
open Go
variable {P : Program} {μ μ' : Mu} {h h' : H} {w w' : World} {n base : Nat} {b : Frame} {act : Act} {k : List Item} {cs : List Frame} {ops : Array Oper} {i : Nat} {rest : List Nat} {o : Oper}

theorem call_inv {op : Op} {f : Opd} {args : List Opd} (hc : cOp P n op = some (.h (.call f args))) :
    ∃ c f0, op = .call c ∧ c.callee = .value f0 ∧ cOpd P n f0 = some f ∧ cOpds P n c.args.toList = some args := by
  cases op with
  | call c =>
    obtain ⟨cal, as, ts⟩ := c
    simp only [cOp] at hc
    split at hc
    · simp only [cBuiltin] at hc
      exfalso
      repeat' (first | (cases hc; done) | (obtain ⟨_, _, e⟩ := Option.map_eq_some_iff.1 hc; cases e; done) | split at hc)
    · rename_i f0
      split at hc
      · split at hc
        · split at hc
          · obtain ⟨_, _, e⟩ := Option.map_eq_some_iff.1 hc; cases e
          · cases hc
        · obtain ⟨as', h1, e⟩ := Option.map_eq_some_iff.1 hc
          cases e
          exact ⟨_, _, rfl, rfl, rfl, h1⟩
      · cases hc
    · split at hc
      · rename_i h1 h2
        cases hc
        exact ⟨_, _, rfl, rfl, h1, h2⟩
      · cases hc
    · cases hc
  | defer c =>
    simp only [cOp] at hc
    split at hc
    · split at hc <;> cases hc
    · cases hc
  | makeMap t r => cases r <;> simp only [cOp] at hc <;> cases hc
  | makeFunc f a c => cases f <;> simp only [cOp] at hc <;> (try cases hc; done); split at hc <;> cases hc
  | typeAssert x xt t ok => cases ok <;> simp only [cOp] at hc <;> (try cases hc; done); split at hc <;> cases hc
  | slice t x l hh m => cases m <;> simp only [cOp] at hc <;> repeat' (first | (cases hc; done) | split at hc)
  | next it s =>
    simp only [cOp] at hc
    obtain ⟨_, _, e⟩ := Option.map_eq_some_iff.1 hc
    cases s <;> cases e
  | _ =>
    exfalso
    simp only [cOp] at hc
    repeat' (first | (cases hc; done) | (obtain ⟨_, _, e⟩ := Option.map_eq_some_iff.1 hc; cases e; done) | split at hc)

theorem dfr_inv {op : Op} {f : Opd} {args : List Opd} (hc : cOp P n op = some (.h (.dfr f args))) :
    ∃ c f0, op = .defer c ∧ c.callee = .value f0 ∧ cOpd P n f0 = some f ∧ cOpds P n c.args.toList = some args := by
  cases op with
  | call c =>
    obtain ⟨cal, as, ts⟩ := c
    simp only [cOp] at hc
    split at hc
    · simp only [cBuiltin] at hc
      exfalso
      repeat' (first | (cases hc; done) | (obtain ⟨_, _, e⟩ := Option.map_eq_some_iff.1 hc; cases e; done) | split at hc)
    · split at hc
      · split at hc
        · split at hc
          · obtain ⟨_, _, e⟩ := Option.map_eq_some_iff.1 hc; cases e
          · cases hc
        · obtain ⟨as', h1, e⟩ := Option.map_eq_some_iff.1 hc
          cases e
      · cases hc
    · split at hc <;> cases hc
    · cases hc
  | defer c =>
    simp only [cOp] at hc
    split at hc
    · rename_i f0 hf
      split at hc
      · rename_i h1 h2
        cases hc
        exact ⟨_, _, rfl, hf, h1, h2⟩
      · cases hc
    · cases hc
  | makeMap t r => cases r <;> simp only [cOp] at hc <;> cases hc
  | makeFunc f a c => cases f <;> simp only [cOp] at hc <;> (try cases hc; done); split at hc <;> cases hc
  | typeAssert x xt t ok => cases ok <;> simp only [cOp] at hc <;> (try cases hc; done); split at hc <;> cases hc
  | slice t x l hh m => cases m <;> simp only [cOp] at hc <;> repeat' (first | (cases hc; done) | split at hc)
  | next it s =>
    simp only [cOp] at hc
    obtain ⟨_, _, e⟩ := Option.map_eq_some_iff.1 hc
    cases s <;> cases e
  | _ =>
    exfalso
    simp only [cOp] at hc
    repeat' (first | (cases hc; done) | (obtain ⟨_, _, e⟩ := Option.map_eq_some_iff.1 hc; cases e; done) | split at hc)

/-- Only a 'defer' is turned into one. -/
theorem not_defer {op : Op} {kd : Kind} (hc : cOp P n op = some kd) (hk : ∀ f a, kd ≠ .h (.dfr f a)) : ∀ c, op ≠ .defer c := by
  intro c e
  subst e
  simp only [cOp] at hc
  split at hc
  · split at hc
    · cases hc; exact hk _ _ rfl
    · cases hc
  · cases hc

theorem step_val {nx : Next} {d : Value} (ho : ops[i]? = some o) (hw : Region.wanted o (yielded ops act.tmps) = true) (hnd : ∀ c, o.op ≠ .defer c) (hr : (execOp act.eval o).run P w = .ok nx w') (hnx : nx = .value d ∨ (nx = .skip ∧ d = undef)) :
    step P (lone (b.atR act (.inRegion ops (i :: rest) :: k)) cs w) = .next (lone (b.atR (act.put o.dst d) (.inRegion ops rest :: k)) cs w') := by
  have hf : (b.atR act (.inRegion ops (i :: rest) :: k)).finish d = b.atR (act.put o.dst d) (.inRegion ops rest :: k) := by rw [Frame.finish_atR, ho]; rfl
  refine step_lone_go ?_
  rw [stepGR_op ho hw, Oper.semAt_eq _ _ _ hnd, ← hf]
  rcases hnx with rfl | ⟨rfl, rfl⟩ <;> simp [stepG.apply, hr]

theorem vr_fn {g : Nat} {first cap : List V} {d : Value} (hv : VR μ (.fn g first cap) d) : ∃ as cs, d = .func (.func g) as.toArray cs.toArray ∧ VRs μ first as ∧ VRs μ cap cs := hv.fn_inv

theorem exec_call {c : Call} {f0 : Operand} (ρ' : Operand → Value) (ho : o.op = .call c) (hf : c.callee = .value f0) :
    execOp ρ' o = (do let d ← Deferred.ofValue (ρ' f0) (c.args.map ρ'); invoke d.target d.args) := by
  obtain ⟨dst, op, type, pos, after, guard⟩ := o
  simp only at ho
  subst ho
  simp only [execOp, resolve, hf]

/-- A call, made by an operation of a region. -/
theorem call_steps {c : Call} {f0 : Operand} {f : V} {args : List V} {Q : V → H → Prop} (r : R P μ h w) (hopi : ops[i]? = some o) (hw : Region.wanted o (yielded ops act.tmps) = true) (ho : o.op = .call c) (hf : c.callee = .value f0)
    (hfv : VR μ f (act.eval f0)) (hav : VRs μ args (c.args.map act.eval).toList) (hE : callV (Snd P) f args h Q) :
    ∃ d w', After P μ h w Q d w' ∧ Steps P (lone (b.atR act (.inRegion ops (i :: rest) :: k)) cs w) (lone (b.atR (act.put o.dst d) (.inRegion ops rest :: k)) cs w') := by
  have hnd : ∀ c, o.op ≠ .defer c := fun c e => by rw [ho] at e; cases e
  have hfin : ∀ d, (b.atR act (.inRegion ops (i :: rest) :: k)).finish d = b.atR (act.put o.dst d) (.inRegion ops rest :: k) := fun d => by rw [Frame.finish_atR, hopi]; rfl
  have hex := exec_call act.eval ho hf
  cases f <;> simp only [callV] at hE <;> (try exact hE.elim)
  · rename_i g first cap
    obtain ⟨as, cs', e, h1, h2⟩ := hfv.fn_inv
    have hargs : ((as ++ (c.args.map act.eval).toList ++ cs').toArray) = (as.toArray ++ c.args.map act.eval) ++ cs'.toArray := by simp
    have hran := hE μ w (as ++ (c.args.map act.eval).toList ++ cs') ((h1.append hav).append h2) r
    rw [hargs] at hran
    have hex' : execOp act.eval o = callFunc g ((as.toArray ++ c.args.map act.eval) ++ cs'.toArray) := by rw [hex, e]; rfl
    clear hargs
    generalize (as.toArray ++ c.args.map act.eval) ++ cs'.toArray = ar at hran hex'
    rcases hran with ⟨d, w', hr, ha⟩ | ⟨hr, hent⟩
    · exact ⟨d, w', ha, .one (step_val hopi hw hnd (by rw [hex']; exact hr) (.inl rfl))⟩
    · obtain ⟨d, w', fr, ha, hs, hfn, hk, hm, hd, fn, hff, hres⟩ := hent .normal (.inl rfl) (b.atR act (.inRegion ops (i :: rest) :: k) :: cs)
      refine ⟨d, w', ha, .head (m₁ := lone (Frame.enter P g ar .normal) (b.atR act (.inRegion ops (i :: rest) :: k) :: cs) w) ?_ (Steps.trans hs (.one ?_))⟩
      · refine step_lone_go ?_
        rw [stepGR_op hopi hw, Oper.semAt_eq _ _ _ hnd, hex']
        simp [stepG.apply, hr, Frame.atR]
      · rw [← hfin]
        exact step_leave_returned ⟨hm, hd, hk, fn, hff, hres⟩
  · rename_i l
    generalize hfe : act.eval f0 = fe at hfv
    cases hfv with
    | yield hL =>
      rename_i L
      obtain ⟨g, tmps, asn, body, hy, hall⟩ := hE μ w _ _ hav r hL
      obtain ⟨d, w', ha, hs⟩ := hall (b.atR act (.inRegion ops (i :: rest) :: k)) cs
      rw [hfin] at hs
      refine ⟨d, w', ha, .head ?_ hs⟩
      refine step_lone_go ?_
      have hex' : execOp act.eval o = Instr.yield L.B (#[] ++ c.args.map act.eval) := by rw [hex, hfe]; rfl
      rw [stepGR_op hopi hw, Oper.semAt_eq _ _ _ hnd, hex']
      have hy' : Sem.run P (Instr.yield L.B (#[] ++ c.args.map act.eval)) w = .ok (.round L.B g tmps asn body) w := by
        rw [Array.toArray_toList] at hy
        rw [Array.empty_append]; exact hy
      generalize (#[] ++ c.args.map act.eval) = ar at hy'
      simp [stepG.apply, hy']

/-- One operation. -/
theorem step_op {io : IOp} {a : A} {K : V → A → H → Prop} (ho : ops[i]? = some o) (hw : Region.wanted o (yielded ops act.tmps) = true) (hd : io.dst = o.dst) (hdn : cDst n o.dst = true) (hc : cOp P n o.op = some io.k)
    (hnd : b.roundOf ≠ none → ∀ f a, io.k ≠ .h (.dfr f a)) (s : SR P n base μ a h act w) (hE : stepE (Snd P) io a h K) :
    ∃ v a' h' act' μ' w', K v a' h' ∧ Steps P (lone (b.atR act (.inRegion ops (i :: rest) :: k)) cs w) (lone (b.atR act' (.inRegion ops rest :: k)) cs w') ∧ St P μ h w μ' h' w' ∧ SR P n base μ' a' h' act' w' := by
  unfold stepE at hE
  cases hk : io.k with
  | p kk =>
    rw [hk] at hc hE
    simp only at hE
    cases he : kk.ev (Opd.ev a.t) with
    | none => simp [he] at hE
    | some v =>
      simp only [he] at hE
      obtain ⟨d, hv, hr⟩ := pk_sound (w := w) hc s.rho he o rfl
      rw [hd] at hE
      exact ⟨v, _, h, _, μ, w, hE, .one (step_val ho hw (not_defer hc (by intro f a e; cases e)) hr (.inl rfl)), St.refl s.rel, s.put hdn hv⟩
  | r kk =>
    rw [hk] at hc hE
    simp only at hE
    cases he : kk.ev (Opd.ev a.t) h with
    | none => simp [he] at hE
    | some v =>
      simp only [he] at hE
      obtain ⟨d, hv, hr⟩ := rk_sound (w := w) hc s.rho s.rel he o rfl
      rw [hd] at hE
      exact ⟨v, _, h, _, μ, w, hE, .one (step_val ho hw (not_defer hc (by intro f a e; cases e)) hr (.inl rfl)), St.refl s.rel, s.put hdn hv⟩
  | a kk =>
    rw [hk] at hc hE
    simp only at hE
    cases he : kk.ev (Opd.ev a.t) with
    | none => simp [he] at hE
    | some xf =>
      obtain ⟨x, f⟩ := xf
      simp only [he] at hE
      obtain ⟨d, w', μ', bb, hb, hv, hr, hst⟩ := ak_sound hc s.rho s.rel he o rfl
      rw [hd] at hE
      exact ⟨f bb, _, _, _, μ', w', hE bb hb, .one (step_val ho hw (not_defer hc (by intro f a e; cases e)) hr (.inl rfl)), hst, (s.step hst).put hdn hv⟩
  | h kk =>
    rw [hk] at hc hE
    by_cases hp : kk.plain = true
    · have hE' : kk.E (Snd P) (Opd.ev a.t) h fun v h' => K v { a with t := put a.t io.dst v } h' := by
        cases kk <;> first | exact hE | cases hp
      obtain ⟨nx, v, d, h', μ', w', hr, hnx, hK, hv, hst⟩ := hk_sound hc s.rho s.rel hp hE' o rfl (fun f => rfl)
      rw [hd] at hK
      exact ⟨v, _, h', _, μ', w', hK, .one (step_val ho hw (not_defer hc (by intro f a e; cases e; cases hp)) hr hnx), hst, (s.step hst).put hdn hv⟩
    · cases kk <;> first | (exact absurd rfl hp) | skip
      · rename_i f args
        obtain ⟨c, f0, hop, hcal, h1, h2⟩ := call_inv hc
        simp only [HK.E] at hE
        have hav : VRs μ (args.map (Opd.ev a.t)) (c.args.map act.eval).toList := by
          have := vrs_map s.rho _ _ h2
          simpa using this
        obtain ⟨d, w', ⟨v, h', μ', hK, hv, hst⟩, hs⟩ := call_steps (b := b) (k := k) (cs := cs) (rest := rest) s.rel ho hw hop hcal (rho1 s.rho h1) hav hE
        rw [hd] at hK
        exact ⟨v, _, h', _, μ', w', hK, hs, hst, (s.step hst).put hdn hv⟩
      · rename_i f args
        obtain ⟨c, f0, hop, hcal, h1, h2⟩ := dfr_inv hc
        have hro : b.roundOf = none := by
          cases e : b.roundOf with
          | none => rfl
          | some l => exact absurd hk (hnd (by rw [e]; simp) f args)
        simp only at hE
        cases hfe : f.ev a.t <;> simp only [hfe] at hE <;> (try exact hE.elim)
        rename_i g first cap
        have hfv := rho1 s.rho h1
        rw [hfe] at hfv
        obtain ⟨as, cs', e, q1, q2⟩ := hfv.fn_inv
        have hav : VRs μ (args.map (Opd.ev a.t)) (c.args.map act.eval).toList := by
          have := vrs_map s.rho _ _ h2
          simpa using this
        rw [hd] at hE
        refine ⟨_, _, h, ({ act with defers := { target := .fn (.func g) cs'.toArray, args := as.toArray ++ (c.args.map act.eval).toList.toArray } :: act.defers } : Act).put o.dst Go.undef, μ, w, hE, .one ?_, St.refl s.rel, ?_⟩
        · refine step_lone_go ?_
          have hf : ∀ ds, ({ b.atR act (.inRegion ops (i :: rest) :: k) with defers := ds } : Frame).finish Go.undef = b.atR (({ act with defers := ds } : Act).put o.dst Go.undef) (.inRegion ops rest :: k) := fun ds => by
            have := Frame.finish_atR b { act with defers := ds } ops i rest k Go.undef
            rw [ho] at this; exact this
          have hex : (o.semAt b.roundOf act.eval).run P w = .ok (.defer { target := .fn (.func g) cs'.toArray, args := as.toArray ++ (c.args.map act.eval).toList.toArray }) w := by
            rw [hro]
            obtain ⟨dst, op, type, pos, after, guard⟩ := o
            simp only at hop
            subst hop
            simp only [Oper.semAt, execOp, resolve, hcal, e, Deferred.ofValue]
            simp
          rw [stepGR_op ho hw]
          simp only [stepG.apply, Sem.runT_eq, if_true, hex, GStep.bare_after, ← hf]
          rfl
        · have s1 : SR P n base μ { a with d := (.fn g first cap, args.map (Opd.ev a.t)) :: a.d } h { act with defers := { target := .fn (.func g) cs'.toArray, args := as.toArray ++ (c.args.map act.eval).toList.toArray } :: act.defers } w :=
            ⟨s.rel, s.t, .call q1 q2 hav s.d⟩
          exact s1.put hdn (.undef _)
end Mir
