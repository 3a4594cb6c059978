/- The mirror, part 14: calls; one operation of a region, on the machine. -/
import Derived.Test.YtijipnkdabdioaaMir13
import Derived.RangeFuncIn
set_option linter.unusedSimpArgs false
set_option linter.unusedVariables false
namespace Mir
open Go
variable {P : Program} {μ μ' : Mu} {h h' : H} {w w' : World} {n base : Nat}

/-- What a call leaves behind. -/
def After (P : Program) (μ : Mu) (h : H) (w : World) (Q : V → H → Prop) (d : Value) (w' : World) : Prop := ∃ v h' μ', Q v h' ∧ VR μ' v d ∧ St P μ h w μ' h' w'
/-- A function that is entered comes to its end, whether it was called or put off. -/
def Entered (P : Program) (f : FuncId) (args : Array Value) (w : World) (R : Value → World → Prop) : Prop :=
  ∀ kind, (kind = .normal ∨ kind = .deferred) → ∀ cs, ∃ v w' fr, R v w' ∧ Steps P (lone (Frame.enter P f args kind) cs w) (lone fr cs w') ∧ fr.fn = f ∧ fr.kind = kind ∧ fr.mode = .returning ∧ fr.defers = [] ∧
    ∃ fn, P.funcs[fr.fn]? = some fn ∧ (results fn fr.tmps).run P w' = .ok v w'
def Ran (P : Program) (f : FuncId) (args : Array Value) (w : World) (R : Value → World → Prop) : Prop :=
  (∃ v w', (callFunc f args).run P w = .ok (.value v) w' ∧ R v w') ∨ ((callFunc f args).run P w = .ok (.enter f args) w ∧ Entered P f args w R)
def RanRound (P : Program) (l : Nat) (args : Array Value) (w : World) (R : Value → World → Prop) : Prop :=
  ∃ f tmps assign body, (Instr.yield l args).run P w = .ok (.round l f tmps assign body) w ∧
    ∀ c cs, ∃ v w', R v w' ∧ Steps P (lone (Frame.round l f tmps assign body .normal) (c :: cs) w) (lone (c.finish v) cs w')
/-- What a call is, said of the model. -/
def Snd (P : Program) : CP
  | .fn f, args, h, Q => ∀ μ w args', VRs μ args args' → R P μ h w → Ran P f args'.toArray w (After P μ h w Q)
  | .round l, args, h, Q => ∀ μ w args' L, VRs μ args args' → R P μ h w → μ l = some L → RanRound P L.B args'.toArray w (After P μ h w Q)

theorem After.mono {Q Q' : V → H → Prop} (hq : ∀ v h, Q v h → Q' v h) {d : Value} (a : After P μ h w Q d w') : After P μ h w Q' d w' :=
  let ⟨v, h', μ', q, r⟩ := a; ⟨v, h', μ', hq _ _ q, r⟩
theorem Entered.mono {f : FuncId} {args : Array Value} {R R' : Value → World → Prop} (hr : ∀ v w, R v w → R' v w) (a : Entered P f args w R) : Entered P f args w R' :=
  fun kind hk cs => let ⟨v, w', fr, r, x⟩ := a kind hk cs; ⟨v, w', fr, hr _ _ r, x⟩
theorem Ran.mono {f : FuncId} {args : Array Value} {R R' : Value → World → Prop} (hr : ∀ v w, R v w → R' v w) (a : Ran P f args w R) : Ran P f args w R' := by
  rcases a with ⟨v, w', h1, h2⟩ | ⟨h1, h2⟩
  · exact .inl ⟨v, w', h1, hr _ _ h2⟩
  · exact .inr ⟨h1, h2.mono hr⟩
theorem RanRound.mono {l : Nat} {args : Array Value} {R R' : Value → World → Prop} (hr : ∀ v w, R v w → R' v w) (a : RanRound P l args w R) : RanRound P l args w R' := by
  obtain ⟨f, tmps, as, bd, h1, h2⟩ := a
  exact ⟨f, tmps, as, bd, h1, fun c cs => let ⟨v, w', r, x⟩ := h2 c cs; ⟨v, w', hr _ _ r, x⟩⟩
theorem Snd.mono {c : Callee} {args : List V} {Q Q' : V → H → Prop} (hq : ∀ v h, Q v h → Q' v h) (a : Snd P c args h Q) : Snd P c args h Q' := by
  cases c with
  | fn f => exact fun μ w args' hv r => (a μ w args' hv r).mono fun _ _ => After.mono hq
  | round l => exact fun μ w args' L hv r hL => (a μ w args' L hv r hL).mono fun _ _ => After.mono hq

/-! ### Temporaries, deferred calls -/
def TR (μ : Mu) (n : Nat) (t : Tm) (tmps : Array Value) : Prop := tmps.size = n ∧ ∀ i, VR μ (t i) (tmps.getD i undef)
theorem TR.mono (hm : μ.le μ') {t : Tm} {tmps : Array Value} (a : TR μ n t tmps) : TR μ' n t tmps := ⟨a.1, fun i => (a.2 i).mono hm⟩
theorem TR.set {t : Tm} {tmps : Array Value} (a : TR μ n t tmps) {d : Nat} (hd : d < n) {v : V} {x : Value} (hv : VR μ v x) : TR μ n (upd t d v) (tmps.setIfInBounds d x) := by
  refine ⟨by simp [a.1], fun i => ?_⟩
  by_cases e : i = d
  · subst e
    have : i < tmps.size := by rw [a.1]; exact hd
    simp [upd, this]; exact hv
  · have := a.2 i
    simp only [upd, e, if_false]
    rw [Array.getD_eq_getD_getElem?] at this ⊢
    rw [Array.getElem?_setIfInBounds_ne (Ne.symm e)]
    exact this
theorem TR.put {a : Tm} {act : Act} (r : TR μ n a act.tmps) {d : Option Tmp} (hd : cDst n d = true) {v : V} {x : Value} (hv : VR μ v x) : TR μ n (put a d v) (act.put d x).tmps := by
  cases d with
  | none => exact r
  | some d => exact r.set (by simpa [cDst] using hd) hv
theorem vr_undef : VR μ (.tup []) Go.undef := VR.mkTup (ds := []) .nil

theorem OR.no_defer {L : Loc} {o : AObj} {x : Option (List Deferred)} : ¬ OR P μ L o (.deferred x) := by
  intro h
  cases o with
  | cells cs ro => obtain ⟨_, _, _, e, _⟩ := h; cases e
  | map es c => obtain ⟨_, e, _⟩ := h; cases e
  | iter m a b c => obtain ⟨_, _, e, _⟩ := h; cases e
  | sit s p => obtain ⟨_, e⟩ := h; cases e
  | loop t ps as bd st pd => obtain ⟨_, e, _⟩ := h; cases e
theorem R.no_own (r : R P μ h w) {B : Nat} {x : Option (List Deferred)} (hB : w.heap[B]? = some (.deferred x)) : ¬ Own μ h B := by
  rintro ⟨b, o, L, hb, _, hL, rfl⟩
  obtain ⟨L', y, e, hy, ho⟩ := r.at_ b o hb
  rw [hL] at e; cases e
  rw [hB] at hy; cases hy
  exact OR.no_defer ho

inductive DR (μ : Mu) (base : Nat) (w : World) : List (V × List V) → List Deferred → Prop where
  | nil : DR μ base w [] []
  | call {f : Nat} {first cap args : List V} {as cs args' : List Value} {ds : List (V × List V)} {Ds : List Deferred} : VRs μ first as → VRs μ cap cs → VRs μ args args' → DR μ base w ds Ds →
      DR μ base w ((.fn f first cap, args) :: ds) ({ target := .fn (.func f) cs.toArray, args := as.toArray ++ args'.toArray } :: Ds)
  | mark {r : Nat} {ds : List (V × List V)} {Ds : List Deferred} : base ≤ r → w.heap[r]? = some (.deferred (some [])) → (∀ d ∈ Ds, d.target ≠ .collected r) → DR μ base w ds Ds →
      DR μ base w ds ({ target := .collected r, args := #[] } :: Ds)
theorem DR.mono (s : St P μ h w μ' h' w') (r : R P μ h w) {ds : List (V × List V)} {Ds : List Deferred} (a : DR μ base w ds Ds) : DR μ' base w' ds Ds := by
  induction a with
  | nil => exact .nil
  | call h1 h2 h3 _ ih => exact .call (h1.mono s.le) (h2.mono s.le) (h3.mono s.le) ih
  | mark h1 h2 h3 _ ih =>
    refine .mark h1 ?_ h3 ih
    rw [s.kept _ (Array.getElem?_eq_some_iff.1 h2).1 (r.no_own h2)]; exact h2

/-- An activation of the mirror and one of the model. -/
structure SR (P : Program) (n base : Nat) (μ : Mu) (a : A) (h : H) (act : Act) (w : World) : Prop where
  rel : R P μ h w
  t : TR μ n a.t act.tmps
  d : DR μ base w a.d act.defers
theorem SR.step {a : A} {act : Act} (r : SR P n base μ a h act w) (s : St P μ h w μ' h' w') : SR P n base μ' a h' act w' := ⟨s.rel, r.t.mono s.le, r.d.mono s r.rel⟩
theorem SR.put {a : A} {act : Act} (r : SR P n base μ a h act w) {d : Option Tmp} (hd : cDst n d = true) {v : V} {x : Value} (hv : VR μ v x) : SR P n base μ { a with t := put a.t d v } h (act.put d x) w :=
  ⟨r.rel, r.t.put hd hv, by cases d <;> exact r.d⟩
theorem SR.rho {a : A} {act : Act} (r : SR P n base μ a h act w) : Rho P n μ (Opd.ev a.t) act.eval := by
  intro x y hc
  cases x with
  | tmp t =>
    simp only [cOpd] at hc
    split at hc
    · cases hc; exact r.t.2 t
    · cases hc
  | const v =>
    simp only [cOpd] at hc
    obtain ⟨v', h1, rfl⟩ := Option.map_eq_some_iff.1 hc
    exact toV_sound _ _ _ h1
  | global g =>
    simp only [cOpd] at hc
    split at hc
    · rename_i hg
      cases hc
      obtain ⟨m, e⟩ := r.rel.glob g hg
      exact VR.ptr (o := 0) e
    · cases hc
  | func f =>
    simp only [cOpd] at hc
    cases hc
    exact VR.mkFn (as := []) (cs := []) .nil .nil

/-! ### Guards -/
theorem guard_sound {a : A} {act : Act} (r : SR P n base μ a h act w) {ops : Array Oper} {o : Oper} {g : Option (Nat × Bool)} (hg : cGuard n ops o.guard = some g) (hok : guardOk a.t g) :
    Region.wanted o (yielded ops act.tmps) = wantedE a.t g := by
  unfold cGuard at hg
  unfold Region.wanted
  cases ho : o.guard with
  | none => simp only [ho] at hg; cases hg; rfl
  | some jb =>
    obtain ⟨j, b⟩ := jb
    simp only [ho] at hg
    split at hg
    · rename_i d hd
      split at hg
      · rename_i hdn
        cases hg
        simp only [yielded, hd, Option.bind_some, wantedE]
        have hv := r.t.2 d
        have hsz : d < act.tmps.size := by rw [r.t.1]; exact hdn
        simp only [guardOk] at hok
        rw [Array.getD_eq_getD_getElem?, Array.getElem?_eq_getElem hsz] at hv
        simp only [Option.getD_some] at hv
        rw [Array.getElem?_eq_getElem hsz]
        rcases hok with ⟨c, e⟩ | e
        · rw [e] at hv ⊢
          generalize act.tmps[d] = z at hv
          cases hv
          cases c <;> cases b <;> rfl
        · rw [e] at hv ⊢
          obtain ⟨ds, e', _⟩ := hv.tup_inv
          rw [e']
          cases b <;> rfl
      · cases hg
    · cases hg
end Mir
