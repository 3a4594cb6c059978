import Derived.Test.YtipnnfmgecbefaaGreatDoorF2
/- The faster interpreter, 3: code, each piece told what comes behind it. -/
set_option linter.unusedSimpArgs false
set_option linter.unusedVariables false
noncomputable section
namespace Mir
open Go Outs
abbrev TT := Tr V
abbrev DD := List (V × List V)
abbrev HH := Tr (Option AObj)
abbrev KO := Outs (Ex × S)
abbrev K4 := TT → DD → HH → Nat → KO
abbrev KX := Ex → TT → DD → HH → Nat → KO
abbrev KV := V → HH → Nat → KO
abbrev CallK := V → List V → HH → Nat → KV → KO
abbrev RunT := Bool → Tm → H → IC → KX → TT → DD → HH → Nat → KO
theorem bnd_bnd {α β γ : Type} (f : α → Outs β) (g : β → Outs γ) : ∀ o : Outs α, (o.bnd f).bnd g = o.bnd fun x => (f x).bnd g
  | .bad => rfl
  | .one x => rfl
  | .two a b => by simp only [Outs.bnd]; rw [bnd_bnd f g a, bnd_bnd f g b]
theorem bnd_one {α : Type} : ∀ o : Outs α, o.bnd .one = o
  | .bad => rfl
  | .one x => rfl
  | .two a b => by simp only [Outs.bnd]; rw [bnd_one a, bnd_one b]
theorem bnd_cond {α β : Type} (c : Bool) (x y : Outs α) (f : α → Outs β) : (cond c x y).bnd f = cond c (x.bnd f) (y.bnd f) := by cases c <;> rfl
theorem rec_cond {α : Type} (c : Bool) (x y : α) : Bool.rec (motive := fun _ => α) y x c = cond c x y := by cases c <;> rfl

/-! Operands. -/
def O_tmp (i : Nat) (bt : Tm) (t : TT) : V := Option.rec (motive := fun _ => V) (bt i) (fun v => v) (gp (pa i) t)
def O_c (v : V) (_ : Tm) (_ : TT) : V := Bool.rec (motive := fun _ => V) .undef v (v.lit 5)
def O_glob (g : Nat) (_ : Tm) (_ : TT) : V := Bool.rec (motive := fun _ => V) (.ptr g 0) .undef (Nat.ble 500 g)
def opdF (x : Opd) : Tm → TT → V := Opd.rec (motive := fun _ => Tm → TT → V) O_tmp O_c O_glob x
def rhoF (bt : Tm) (t : TT) (x : Opd) : V := opdF x bt t
theorem O_tmp_eq (i : Nat) (bt : Tm) (t : TT) : O_tmp i bt t = tv bt t i := by
  unfold O_tmp tv; rw [gp_pa]; cases t.get i <;> rfl
theorem opdF_eq (x : Opd) (bt : Tm) (t : TT) : opdF x bt t = Opd.ev' (tv bt t) x := by
  cases x with
  | tmp i => exact O_tmp_eq i bt t
  | c v => show Bool.rec (motive := fun _ => V) .undef v (v.lit 5) = _; rw [rec_cond]; rfl
  | glob g => show Bool.rec (motive := fun _ => V) (.ptr g 0) .undef (Nat.ble 500 g) = _; rw [rec_cond]; rfl
theorem rhoF_eq (bt : Tm) (t : TT) (d : DD) (h : HH) (n : Nat) : rhoF bt t = S.ρ bt ⟨t, d, h, n⟩ := funext fun x => opdF_eq x bt t
def putN (_ : V) (t : TT) : TT := t
def putS (i : Nat) (v : V) (t : TT) : TT := pp (pa i) v t
def putF (d : Option Nat) : V → TT → TT := Option.rec (motive := fun _ => V → TT → TT) putN putS d
theorem putF_eq (d : Option Nat) (v : V) (t : TT) : putF d v t = putT t d v := by
  cases d with
  | none => rfl
  | some i => exact pp_pa i v t

/-! Operations. -/
abbrev StK := CallK → Option Nat → Tm → H → K4 → K4
def G_heavy (f : (Opd → V) → H → HH → Nat → Outs HO) : StK := fun _ dst bt bh κ t d h n => (f (rhoF bt t) bh h n).bnd fun x => κ (putF dst x.1 t) d x.2.1 x.2.2
def G_call (f : Opd) (args : List Opd) : StK := fun call dst bt _ κ t d h n => call (opdF f bt t) (args.map (rhoF bt t)) h n fun v h n => κ (putF dst v t) d h n
def G_dfr (f : Opd) (args : List Opd) : StK := fun _ dst bt _ κ t d h n => match opdF f bt t with
  | .fn g first cap => κ (putF dst .undef t) ((.fn g first cap, args.map (rhoF bt t)) :: d) h n
  | _ => .bad
def hkK (k : HK) : StK := HK.rec (motive := fun _ => StK) (fun n x v => G_heavy (H_store n x v)) (fun f a => G_call f a) (fun a b x y => G_heavy (H_app a b x y)) (fun a x y => G_heavy (H_copy a x y))
  (fun a b c d => G_heavy (H_mapUpd a b c d)) (fun a b c d => G_heavy (H_mapEntry a b c d)) (fun a b c => G_heavy (H_entryStore a b c)) (fun a b c => G_heavy (H_delete a b c)) (fun a => G_heavy (H_range a)) (fun a => G_heavy (H_next a))
  (fun a => G_heavy (H_rangeStr a)) (fun a => G_heavy (H_nextStr a)) (fun a => G_heavy (H_clone a)) (fun a b => G_heavy (H_ustr a b)) (fun f a => G_dfr f a) k
def K_p (k : PK) : StK := fun _ dst bt _ κ t d h n => Bool.rec (motive := fun _ => KO) .bad (Option.rec (motive := fun _ => KO) .bad (fun v => κ (putF dst v t) d h n) (pkF k (rhoF bt t))) k.okc
def K_r (k : RK) : StK := fun _ dst bt bh κ t d h n => Bool.rec (motive := fun _ => KO) .bad (Option.rec (motive := fun _ => KO) .bad (fun v => κ (putF dst v t) d h n) (rkF k (rhoF bt t) (hv bh h))) k.okc
def K_a (k : AK) : StK := fun _ dst bt _ κ t d h n => Bool.rec (motive := fun _ => KO) .bad (Option.rec (motive := fun _ => KO) .bad (fun x => κ (putF dst (x.2 (k.nm n)) t) d (pp (pa (k.nm n)) (some x.1) h) (Nat.succ n)) (akF k (rhoF bt t))) k.okc
def stK (k : Kind) : StK := Kind.rec (motive := fun _ => StK) K_p K_r K_a hkK k
variable {call : V → List V → HH → Nat → Outs HO} {callK : CallK} {bt : Tm} {bh : H}
def CallEq (call : V → List V → HH → Nat → Outs HO) (callK : CallK) : Prop := ∀ f args h n κ, callK f args h n κ = (call f args h n).bnd fun x => κ x.1 x.2.1 x.2.2
theorem stK_eq (hc : CallEq call callK) (o : IOp) (κ : K4) (t : TT) (d : DD) (h : HH) (n : Nat) : stK o.k callK o.dst bt bh κ t d h n = (stepR call bt bh o ⟨t, d, h, n⟩).bnd fun x => κ x.2.t x.2.d x.2.h x.2.n := by
  unfold stepR
  cases hk : o.k with
  | p k =>
    show Bool.rec (motive := fun _ => KO) .bad (Option.rec (motive := fun _ => KO) .bad (fun v => κ (putF o.dst v t) d h n) (pkF k (rhoF bt t))) k.okc = _
    rw [rec_cond, pkF_eq, rhoF_eq bt t d h n]
    simp only [bnd_cond]
    congr 1
    cases k.ev (S.ρ bt ⟨t, d, h, n⟩) with
    | none => rfl
    | some v => simp only [putF_eq]; rfl
  | r k =>
    show Bool.rec (motive := fun _ => KO) .bad (Option.rec (motive := fun _ => KO) .bad (fun v => κ (putF o.dst v t) d h n) (rkF k (rhoF bt t) (hv bh h))) k.okc = _
    rw [rec_cond, rkF_eq, rhoF_eq bt t d h n]
    simp only [bnd_cond]
    congr 1
    cases k.ev (S.ρ bt ⟨t, d, h, n⟩) (hv bh h) with
    | none => rfl
    | some v => simp only [putF_eq]; rfl
  | a k =>
    show Bool.rec (motive := fun _ => KO) .bad (Option.rec (motive := fun _ => KO) .bad (fun x => κ (putF o.dst (x.2 (k.nm n)) t) d (pp (pa (k.nm n)) (some x.1) h) (Nat.succ n)) (akF k (rhoF bt t))) k.okc = _
    rw [rec_cond, akF_eq, rhoF_eq bt t d h n]
    simp only [bnd_cond]
    congr 1
    cases k.ev (S.ρ bt ⟨t, d, h, n⟩) with
    | none => rfl
    | some v => obtain ⟨x, f⟩ := v; simp only [putF_eq, pp_pa]; rfl
  | h k =>
    have gen : ∀ (f : (Opd → V) → H → HH → Nat → Outs HO), (∀ f as, k ≠ .dfr f as) → (∀ f as, k ≠ .call f as) → hkK k = G_heavy f → f = hkF k → hkK k callK o.dst bt bh κ t d h n = ((k.run call (S.ρ bt ⟨t, d, h, n⟩) bh h n).bnd fun x => .one (x.1, (⟨putT t o.dst x.1, d, x.2.1, x.2.2⟩ : S))).bnd fun x => κ x.2.t x.2.d x.2.h x.2.n := fun f h1 h2 e e2 => by
      rw [e, e2, bnd_bnd]
      show (hkF k (rhoF bt t) bh h n).bnd _ = _
      rw [hkF_eq call k _ _ _ _ h2, rhoF_eq bt t d h n]
      congr 1
      funext x
      simp only [putF_eq]; rfl
    cases k with
    | call f args =>
      show callK (opdF f bt t) (args.map (rhoF bt t)) h n (fun v h n => κ (putF o.dst v t) d h n) = _
      rw [hc, opdF_eq, rhoF_eq bt t d h n]
      simp only [HK.run, bnd_bnd, S.ρ]
      congr 1
      funext x
      simp only [putF_eq]; rfl
    | dfr f args =>
      show (match opdF f bt t with | .fn g first cap => κ (putF o.dst .undef t) ((.fn g first cap, args.map (rhoF bt t)) :: d) h n | _ => .bad) = _
      rw [opdF_eq, rhoF_eq bt t d h n]
      simp only [S.ρ]
      generalize Opd.ev' (tv bt t) f = v
      cases v <;> first | rfl | (simp only [putF_eq]; rfl)
    | store _ _ _ => exact gen _ (fun _ _ e => by cases e) (fun _ _ e => by cases e) rfl rfl
    | app _ _ _ _ => exact gen _ (fun _ _ e => by cases e) (fun _ _ e => by cases e) rfl rfl
    | copy _ _ _ => exact gen _ (fun _ _ e => by cases e) (fun _ _ e => by cases e) rfl rfl
    | mapUpd _ _ _ _ => exact gen _ (fun _ _ e => by cases e) (fun _ _ e => by cases e) rfl rfl
    | mapEntry _ _ _ _ => exact gen _ (fun _ _ e => by cases e) (fun _ _ e => by cases e) rfl rfl
    | entryStore _ _ _ => exact gen _ (fun _ _ e => by cases e) (fun _ _ e => by cases e) rfl rfl
    | delete _ _ _ => exact gen _ (fun _ _ e => by cases e) (fun _ _ e => by cases e) rfl rfl
    | range _ => exact gen _ (fun _ _ e => by cases e) (fun _ _ e => by cases e) rfl rfl
    | next _ => exact gen _ (fun _ _ e => by cases e) (fun _ _ e => by cases e) rfl rfl
    | rangeStr _ => exact gen _ (fun _ _ e => by cases e) (fun _ _ e => by cases e) rfl rfl
    | nextStr _ => exact gen _ (fun _ _ e => by cases e) (fun _ _ e => by cases e) rfl rfl
    | clone _ => exact gen _ (fun _ _ e => by cases e) (fun _ _ e => by cases e) rfl rfl
    | ustr _ _ => exact gen _ (fun _ _ e => by cases e) (fun _ _ e => by cases e) rfl rfl
/-- A guard: is it done? -/
def W_none (a b : KO) : KO := a
def W_some (b : Bool) (v : V) (x y : KO) : KO := match v with
  | .bool c => cond (c == b) x y
  | .tup [] => y
  | _ => .bad
def N_guard (dst : Option Nat) (j : Nat) (b : Bool) (st : K4 → K4) (rest : K4) (bt : Tm) : K4 := fun t d h n => W_some b (O_tmp j bt t) (st rest t d h n) (rest (putF dst (.tup []) t) d h n)
def opsNil (_ : CallK) (_ : Tm) (_ : H) (κ : K4) : K4 := fun t d h n => κ t d h n
def opsOp (dst : Option Nat) (g : Option (Nat × Bool)) (k : Kind) : (CallK → Tm → H → K4 → K4) → CallK → Tm → H → K4 → K4 :=
  Option.rec (motive := fun _ => (CallK → Tm → H → K4 → K4) → CallK → Tm → H → K4 → K4) (fun ih call bt bh κ => stK k call dst bt bh (ih call bt bh κ))
    (fun g => Prod.rec (motive := fun _ => (CallK → Tm → H → K4 → K4) → CallK → Tm → H → K4 → K4) (fun j b ih call bt bh κ => N_guard dst j b (fun r => stK k call dst bt bh r) (ih call bt bh κ) bt) g) g
def opsCons (o : IOp) (_ : List IOp) (ih : CallK → Tm → H → K4 → K4) : CallK → Tm → H → K4 → K4 := IOp.rec (motive := fun _ => CallK → Tm → H → K4 → K4) (fun dst g k _ _ => opsOp dst g k ih) o
def opsK (l : List IOp) : CallK → Tm → H → K4 → K4 := List.rec (motive := fun _ => CallK → Tm → H → K4 → K4) opsNil opsCons l
theorem opsK_cons (o : IOp) (l : List IOp) : opsK (o :: l) = opsOp o.dst o.guard o.k (opsK l) := rfl
theorem guardK_eq (o : IOp) (st : K4 → K4) (f : S → Outs S) (rest : K4) (κ : K4) (x : S → Outs S)
    (hst : ∀ t d h n, st rest t d h n = (x ⟨t, d, h, n⟩).bnd fun s => κ s.t s.d s.h s.n) (hrest : ∀ t d h n, rest t d h n = (f ⟨t, d, h, n⟩).bnd fun s => κ s.t s.d s.h s.n) (j : Nat) (b : Bool) (hg : o.guard = some (j, b)) (t : TT) (d : DD) (h : HH) (n : Nat) :
    N_guard o.dst j b st rest bt t d h n = (match wantedR bt (⟨t, d, h, n⟩ : S) o.guard with
      | some true => x ⟨t, d, h, n⟩
      | some false => f ⟨putT t o.dst (.tup []), d, h, n⟩
      | none => (.bad : Outs S)).bnd fun (s : S) => κ s.t s.d s.h s.n := by
  unfold N_guard
  rw [hst, hrest, O_tmp_eq, putF_eq, hg]
  simp only [wantedR]
  generalize tv bt t j = v
  cases v <;> try rfl
  · rename_i c
    cases c <;> cases b <;> rfl
  · rename_i vs
    cases vs <;> rfl
theorem opsK_eq (hc : CallEq call callK) : ∀ (l : List IOp) (κ : K4) (t : TT) (d : DD) (h : HH) (n : Nat), opsK l callK bt bh κ t d h n = (opsR call bt bh l ⟨t, d, h, n⟩).bnd fun s => κ s.t s.d s.h s.n
  | [], κ, t, d, h, n => rfl
  | o :: l, κ, t, d, h, n => by
    have hst : ∀ t d h n, stK o.k callK o.dst bt bh (opsK l callK bt bh κ) t d h n = ((stepR call bt bh o ⟨t, d, h, n⟩).bnd fun x => opsR call bt bh l x.2).bnd fun s => κ s.t s.d s.h s.n := fun t d h n => by
      rw [stK_eq hc, bnd_bnd]
      congr 1
      funext x
      exact opsK_eq hc l κ x.2.t x.2.d x.2.h x.2.n
    rw [opsK_cons]
    unfold opsOp
    simp only [opsR]
    cases hg : o.guard with
    | none => exact hst t d h n
    | some g =>
      obtain ⟨j, b⟩ := g
      have := guardK_eq (bt := bt) o (fun r => stK o.k callK o.dst bt bh r) (fun s => opsR call bt bh l s) (opsK l callK bt bh κ) κ (fun s => (stepR call bt bh o s).bnd fun x => opsR call bt bh l x.2) hst (fun t d h n => opsK_eq hc l κ t d h n) j b hg t d h n
      rw [hg] at this
      exact this
end Mir
end
