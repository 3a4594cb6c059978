import Derived.Test.YtipnnfmgecbefaaGreatDoorF3
/- The faster interpreter, 4: regions of open order, calls, code. -/
set_option linter.unusedSimpArgs false
set_option linter.unusedVariables false
noncomputable section
namespace Mir
open Go Outs
variable {call : V → List V → HH → Nat → Outs HO} {callK : CallK} {bt : Tm} {bh : H} {ip : Ip}
abbrev DrK := CallK → Tm → H → RW → K4 → K4
def drawNil : DrK := fun _ _ _ _ κ t d h n => κ t d h n
def D_p (k : PK) : Option Nat → Nat → List Nat → DrK → DrK := fun dst _ _ ih call bt bh W κ => K_p k call dst bt bh (ih call bt bh W κ)
def D_r (k : RK) : Option Nat → Nat → List Nat → DrK → DrK := fun dst id _ ih call bt bh W κ t d h n =>
  Bool.rec (motive := fun _ => KO) .bad (Option.rec (motive := fun _ => KO) .bad (fun v => ih call bt bh ((id, k, ⟨t, d, h, n⟩, v) :: W) κ (putF dst v t) d h n) (rkF k (rhoF bt t) (hv bh h))) k.okc
def D_a (k : AK) : Option Nat → Nat → List Nat → DrK → DrK := fun dst _ _ ih call bt bh W κ => K_a k call dst bt bh (ih call bt bh W κ)
def D_h (k : HK) : Option Nat → Nat → List Nat → DrK → DrK := fun dst _ watch ih call bt bh W κ => hkK k call dst bt bh fun t d h n => cond (watch.isEmpty || heldR bt bh W watch h) (ih call bt bh W κ t d h n) .bad
def drK (k : Kind) : Option Nat → Nat → List Nat → DrK → DrK := Kind.rec (motive := fun _ => Option Nat → Nat → List Nat → DrK → DrK) D_p D_r D_a D_h k
def drawOp (dst : Option Nat) (g : Option (Nat × Bool)) (k : Kind) (id : Nat) (watch : List Nat) : DrK → DrK :=
  Option.rec (motive := fun _ => DrK → DrK) (fun ih => drK k dst id watch ih)
    (fun g => Prod.rec (motive := fun _ => DrK → DrK) (fun j b ih call bt bh W κ t d h n => W_some b (O_tmp j bt t) (drK k dst id watch ih call bt bh W κ t d h n) (ih call bt bh W κ (putF dst (.tup []) t) d h n)) g) g
def drawCons (o : IOp) (_ : List IOp) (ih : DrK) : DrK := IOp.rec (motive := fun _ => DrK) (fun dst g k id watch => drawOp dst g k id watch ih) o
def drawK (l : List IOp) : DrK := List.rec (motive := fun _ => DrK) drawNil drawCons l
theorem drawK_cons (o : IOp) (l : List IOp) : drawK (o :: l) = drawOp o.dst o.guard o.k o.id o.watch (drawK l) := rfl
theorem drawK_eq (hc : CallEq call callK) : ∀ (l : List IOp) (W : RW) (κ : K4) (t : TT) (d : DD) (h : HH) (n : Nat), drawK l callK bt bh W κ t d h n = (drawR call bt bh l W ⟨t, d, h, n⟩).bnd fun s => κ s.t s.d s.h s.n
  | [], W, κ, t, d, h, n => rfl
  | o :: l, W, κ, t, d, h, n => by
    have ih := fun W κ t d h n => drawK_eq hc l W κ t d h n
    have hst : drK o.k o.dst o.id o.watch (drawK l) callK bt bh W κ t d h n = (match o.k with
        | .r k => (stepR call bt bh o ⟨t, d, h, n⟩).bnd fun (x : V × S) => drawR call bt bh l ((o.id, k, ⟨t, d, h, n⟩, x.1) :: W) x.2
        | .h _ => (stepR call bt bh o ⟨t, d, h, n⟩).bnd fun (x : V × S) => cond (o.watch.isEmpty || heldR bt bh W o.watch x.2.h) (drawR call bt bh l W x.2) .bad
        | _ => (stepR call bt bh o ⟨t, d, h, n⟩).bnd fun (x : V × S) => drawR call bt bh l W x.2).bnd fun (s : S) => κ s.t s.d s.h s.n := by
      have st := fun κ => stK_eq (bt := bt) (bh := bh) hc o κ t d h n
      cases hk : o.k with
      | p k =>
        rw [hk] at st
        show K_p k callK o.dst bt bh (drawK l callK bt bh W κ) t d h n = _
        refine (st _).trans ?_
        simp only [bnd_bnd]
        congr 1
        funext x
        exact ih W κ _ _ _ _
      | a k =>
        rw [hk] at st
        show K_a k callK o.dst bt bh (drawK l callK bt bh W κ) t d h n = _
        refine (st _).trans ?_
        simp only [bnd_bnd]
        congr 1
        funext x
        exact ih W κ _ _ _ _
      | h k =>
        rw [hk] at st
        show hkK k callK o.dst bt bh _ t d h n = _
        refine (st _).trans ?_
        simp only [bnd_bnd, bnd_cond]
        congr 1
        funext x
        simp only [ih]; rfl
      | r k =>
        show Bool.rec (motive := fun _ => KO) .bad (Option.rec (motive := fun _ => KO) .bad (fun v => drawK l callK bt bh ((o.id, k, ⟨t, d, h, n⟩, v) :: W) κ (putF o.dst v t) d h n) (rkF k (rhoF bt t) (hv bh h))) k.okc = _
        unfold stepR
        rw [rec_cond, rkF_eq, rhoF_eq bt t d h n, hk]
        simp only [bnd_cond]
        congr 1
        cases k.ev (S.ρ bt ⟨t, d, h, n⟩) (hv bh h) with
        | none => rfl
        | some v => simp only [putF_eq, ih]; rfl
    rw [drawK_cons]
    unfold drawOp
    simp only [drawR]
    cases hg : o.guard with
    | none => exact hst
    | some g =>
      obtain ⟨j, b⟩ := g
      show W_some b (O_tmp j bt t) (drK o.k o.dst o.id o.watch (drawK l) callK bt bh W κ t d h n) (drawK l callK bt bh W κ (putF o.dst (.tup []) t) d h n) = _
      rw [hst, ih, O_tmp_eq, putF_eq]
      simp only [wantedR]
      generalize tv bt t j = v
      cases v <;> try rfl
      · rename_i c
        cases c <;> cases b <;> rfl
      · rename_i vs
        cases vs <;> rfl

/-! Calls. -/
def startF (args : List V) : Tm := fun i => Option.rec (motive := fun _ => V) (.tup []) (fun v => v) (nthF args i)
theorem startF_eq (args : List V) : startF args = start args := by
  funext i
  show Option.rec (motive := fun _ => V) (.tup []) (fun v => v) (nthF args i) = _
  rw [nthF_eq]
  unfold start
  cases args[i]? <;> rfl
abbrev FnK := Nat → List V → HH → Nat → KV → KO
def dfrNil (_ : FnK) (h : HH) (n : Nat) (κ : HH → Nat → KO) : KO := κ h n
def dfrCons (fa : V × List V) (_ : DD) (ih : FnK → HH → Nat → (HH → Nat → KO) → KO) (fn : FnK) (h : HH) (n : Nat) (κ : HH → Nat → KO) : KO := match fa.1 with
  | .fn f first cap => fn f (first ++ fa.2 ++ cap) h n fun _ h n => ih fn h n κ
  | _ => .bad
def dfrK (d : DD) : FnK → HH → Nat → (HH → Nat → KO) → KO := List.rec (motive := fun _ => FnK → HH → Nat → (HH → Nat → KO) → KO) dfrNil dfrCons d
/-- A function's end. -/
def finF (fn : FnK) (args : List V) (res : List Res) (bh : H) (κ : KV) (t : TT) (d : DD) (h : HH) (n : Nat) : KO :=
  dfrK d fn h n fun h n => Option.rec (motive := fun _ => KO) .bad (fun vs => κ (packed vs) h n) (allSome (res.map (resOf (tv (startF args) t) (hv bh h))))
def endX (fin : K4) (e : Ex) (t : TT) (d : DD) (h : HH) (n : Nat) : KO := Ex.rec (motive := fun _ => KO) (fin t d h n) (fun _ => .bad) (fin t d h n) e
def goFn (rn : RunT) (bh : H) (fn : FnK) (args : List V) (h : HH) (n : Nat) (κ : KV) (g : Fn) : KO :=
  Fn.rec (motive := fun _ => KO) (fun m res body => Bool.rec (motive := fun _ => KO) .bad (rn false (startF args) bh body (endX (finF fn args res bh κ)) .e [] h n) (Nat.ble args.length m)) g
def fnS (ip : Ip) (rn : RunT) (bh : H) (_ : Nat) (ih : FnK) : FnK := fun f args h n κ =>
  Option.rec (motive := fun _ => KO) (Option.rec (motive := fun _ => KO) .bad (goFn rn bh ih args h n κ) (gp (pa f) ip.fns)) (fun v => Bool.rec (motive := fun _ => KO) .bad (κ v h n) (lits (v :: args))) (ip.hook f args)
def fnZ : FnK := fun _ _ _ _ _ => .bad
def fnK (ip : Ip) (rn : RunT) (bh : H) (k : Nat) : FnK := Nat.rec (motive := fun _ => FnK) fnZ (fnS ip rn bh) k
def RnEq (rnK : RunT) (rn : Tm → H → IC → S → Outs (Ex × S)) : Prop := ∀ bt bh c κ t d h n, rnK false bt bh c κ t d h n = (rn bt bh c ⟨t, d, h, n⟩).bnd fun x => κ x.1 x.2.t x.2.d x.2.h x.2.n
theorem dfrK_eq {fn : Nat → List V → HH → Nat → Outs HO} {fnk : FnK} (hf : ∀ f args h n κ, fnk f args h n κ = (fn f args h n).bnd fun x => κ x.1 x.2.1 x.2.2) : ∀ (d : DD) (h : HH) (n : Nat) (κ : HH → Nat → KO), dfrK d fnk h n κ = (dfrR fn d h n).bnd fun x => κ x.1 x.2
  | [], h, n, κ => rfl
  | (v, args) :: d, h, n, κ => by
    show (match v with | .fn f first cap => fnk f (first ++ args ++ cap) h n fun _ h n => dfrK d fnk h n κ | _ => .bad) = _
    simp only [dfrR]
    cases v <;> try rfl
    rename_i f first cap
    simp only [hf, bnd_bnd]
    congr 1
    funext x
    exact dfrK_eq hf d _ _ κ
theorem fnK_eq {rnK : RunT} {rn : Tm → H → IC → S → Outs (Ex × S)} (hr : RnEq rnK rn) : ∀ (k f : Nat) (args : List V) (h : HH) (n : Nat) (κ : KV), fnK ip rnK bh k f args h n κ = (fnR ip rn bh k f args h n).bnd fun x => κ x.1 x.2.1 x.2.2
  | 0, f, args, h, n, κ => rfl
  | k + 1, f, args, h, n, κ => by
    show Option.rec (motive := fun _ => KO) (Option.rec (motive := fun _ => KO) .bad (goFn rnK bh (fnK ip rnK bh k) args h n κ) (gp (pa f) ip.fns)) (fun v => Bool.rec (motive := fun _ => KO) .bad (κ v h n) (lits (v :: args))) (ip.hook f args) = _
    simp only [fnR]
    rw [gp_pa]
    cases ip.hook f args with
    | some v => show Bool.rec (motive := fun _ => KO) .bad (κ v h n) (lits (v :: args)) = _; rw [rec_cond]; simp only [bnd_cond]; rfl
    | none =>
      simp only
      cases ip.fns.get f with
      | none => rfl
      | some g =>
        obtain ⟨m, res, body⟩ := g
        show Bool.rec (motive := fun _ => KO) .bad (rnK false (startF args) bh body (endX (finF (fnK ip rnK bh k) args res bh κ)) .e [] h n) (Nat.ble args.length m) = _
        rw [rec_cond, startF_eq, hr]
        simp only [bnd_cond, bnd_bnd]
        congr 1
        congr 1
        funext x
        obtain ⟨e, t, d, h, n⟩ := x
        have fin : finF (fnK ip rnK bh k) args res bh κ t d h n = ((dfrR (fnR ip rn bh k) d h n).bnd fun y => match allSome (res.map (resOf (tv (start args) t) (hv bh y.1))) with
            | some vs => .one (packed vs, y.1, y.2)
            | none => .bad).bnd fun x => κ x.1 x.2.1 x.2.2 := by
          unfold finF
          rw [dfrK_eq (fnK_eq hr k), bnd_bnd, startF_eq]
          congr 1
          funext y
          cases allSome (res.map (resOf (tv (start args) t) (hv bh y.1))) <;> rfl
        cases e with
        | nm => exact fin
        | exit i => rfl
        | ret => exact fin
def roundK (rn : RunT) (bh : H) (l : Nat) (args : List V) (h : HH) (n : Nat) (κ : KV) : KO :=
  cond (frozen l) .bad <| match hv bh h l with
  | some (.loop t ps as bd .ready pd) => cond (Nat.beq ps.length args.length) (rn false (params t ps args) bh as (fun e t2 d h n =>
      match e, d, hv bh h l with
      | .nm, [], some (.loop t1 ps1 as1 bd1 .ready pd1) => rn false (params t ps args) bh bd (fun e d2t d h n =>
        match d, hv bh h l with
        | [], some (.loop t2 ps2 as2 bd2 st2 pd2) => κ (.bool (e == .nm)) (pp (pa l) (some (.loop t2 ps2 as2 bd2 (endSt e) (endPd e))) h) n
        | _, _ => .bad) t2 [] (pp (pa l) (some (.loop t1 ps1 as1 bd1 .busy pd1)) h) n
      | _, _, _ => .bad) .e [] h n) .bad
  | _ => .bad
theorem roundK_eq {rnK : RunT} {rn : Tm → H → IC → S → Outs (Ex × S)} (hr : RnEq rnK rn) (l : Nat) (args : List V) (h : HH) (n : Nat) (κ : KV) : roundK rnK bh l args h n κ = (roundR rn bh l args h n).bnd fun x => κ x.1 x.2.1 x.2.2 := by
  unfold roundK roundR
  rw [bnd_cond]
  congr 1
  cases hv bh h l with
  | none => rfl
  | some o =>
    cases o <;> try rfl
    rename_i t ps as bd st pd
    cases st <;> try rfl
    simp only [bnd_cond]
    rw [hr]
    congr 1
    rw [bnd_bnd]
    congr 1
    funext x
    obtain ⟨e, t2, d, h, n⟩ := x
    cases e <;> try rfl
    cases d <;> try rfl
    simp only
    cases hv bh h l with
    | none => rfl
    | some o =>
      cases o <;> try rfl
      rename_i t1 ps1 as1 bd1 st1 pd1
      cases st1 <;> try rfl
      simp only
      rw [hr, pp_pa, bnd_bnd]
      congr 1
      funext y
      obtain ⟨e2, t3, d3, h3, n3⟩ := y
      simp only
      cases d3 <;> try rfl
      cases hv bh h3 l with
      | none => rfl
      | some o =>
        cases o <;> try rfl
        simp only [pp_pa]; rfl
def callF (ip : Ip) (rn : RunT) (bh : H) (k : Nat) : CallK := fun f args h n κ => match f with
  | .fn f first cap => fnK ip rn bh k f (first ++ args ++ cap) h n κ
  | .yield l => roundK rn bh l args h n κ
  | _ => .bad
theorem callF_eq {rnK : RunT} {rn : Tm → H → IC → S → Outs (Ex × S)} (hr : RnEq rnK rn) (k : Nat) : CallEq (callR ip rn bh k) (callF ip rnK bh k) := by
  intro f args h n κ
  unfold callF callR
  cases f <;> first
    | exact fnK_eq hr k _ _ _ _ _
    | exact roundK_eq hr _ _ _ _ _
    | rfl

/-! Code. -/
abbrev CoK := (Tm → H → IC → S → Outs (Ex × S)) → RunT → CallK → (V → List V → HH → Nat → Outs HO) → FnK → Bool → Tm → H → KX → K4
def C_skip : CoK := fun _ _ _ _ _ _ _ _ κ t d h n => κ .nm t d h n
def C_ops (l : List IOp) : CoK := fun _ _ call _ _ _ bt bh κ t d h n => opsK l call bt bh (κ .nm) t d h n
def C_draw (l : List IOp) : CoK := fun _ _ call _ _ _ bt bh κ t d h n => drawK l call bt bh [] (κ .nm) t d h n
def X_seq (rec : RunT) (b : IC) (bt : Tm) (bh : H) (κ : KX) : KX := fun e t d h n => Ex.rec (motive := fun _ => KO) (rec false bt bh b κ t d h n) (fun i => κ (.exit i) t d h n) (κ .ret t d h n) e
def C_seq (a b : IC) (_ _ : CoK) : CoK := fun _ rec _ _ _ _ bt bh κ t d h n => rec false bt bh a (X_seq rec b bt bh κ) t d h n
def C_cond (x : Opd) (a b : IC) (_ _ : CoK) : CoK := fun _ rec _ _ _ _ bt bh κ t d h n => match opdF x bt t with
  | .bool c => cond c (rec false bt bh a κ t d h n) (rec false bt bh b κ t d h n)
  | _ => .bad
def X_block (id : Nat) (κ : KX) : KX := fun e t d h n => Ex.rec (motive := fun _ => KO) (κ .nm t d h n) (fun i => κ (cond (Nat.beq i id) .nm (.exit i)) t d h n) (κ .ret t d h n) e
def C_block (id : Nat) (c : IC) (_ : CoK) : CoK := fun _ rec _ _ _ _ bt bh κ t d h n => rec false bt bh c (X_block id κ) t d h n
def X_loop (rec : RunT) (c : IC) (bt : Tm) (bh : H) (κ : KX) : KX := fun e t d h n => Ex.rec (motive := fun _ => KO) (rec true bt bh (.loop c) κ t d h n) (fun i => κ (.exit i) t d h n) (κ .ret t d h n) e
def X_one : KX := fun e t d h n => .one (e, ⟨t, d, h, n⟩)
def C_loop (c : IC) (_ : CoK) : CoK := fun _ rec _ _ _ raw bt bh κ t d h n => cond (!raw && c.nexts)
  ((joined (hv bh h) (rec true (tv bt t) (hv bh h) (.loop c) X_one .e d .e n)).bnd fun x => κ x.1 (x.2.t.over t) x.2.d (x.2.h.over h) x.2.n)
  (rec false bt bh c (X_loop rec c bt bh κ) t d h n)
def C_rangeFn (f : Opd) (ps : List Nat) (as bd : IC) (_ _ : CoK) : CoK := fun _ _ _ _ fn _ bt bh κ t d h n => match opdF f bt t with
  | .fn g first cap => fn g (first ++ [.yield (4 * n)] ++ cap) (pp (pa (4 * n)) (some (.loop (tv bt t) ps as bd .ready none)) h) (Nat.succ n) fun _ h' n' =>
    match hv bh h' (4 * n) with
    | some (.loop _ _ _ _ st pd) => cond (decide (st = .busy)) .bad (κ (pd.getD .nm) t d (pp (pa (4 * n)) none h') n')
    | _ => .bad
  | _ => .bad
def C_exit (id : Nat) : CoK := fun _ _ _ _ _ _ _ _ κ t d h n => κ (.exit id) t d h n
def C_ret : CoK := fun _ _ _ _ _ _ _ _ κ t d h n => κ .ret t d h n
def coK (c : IC) : CoK := IC.rec (motive := fun _ => CoK) C_skip C_ops C_draw C_seq C_cond C_block C_loop C_rangeFn C_exit C_ret c
def runS (ip : Ip) (k : Nat) (ih : RunT) : RunT := fun raw bt bh c κ t d h n => coK c (run ip k false) ih (callF ip ih bh k) (callR ip (run ip k false) bh k) (fnK ip ih bh k) raw bt bh κ t d h n
def runZ : RunT := fun _ _ _ _ _ _ _ _ _ => .bad
def runK (ip : Ip) (k : Nat) : RunT := Nat.rec (motive := fun _ => RunT) runZ (runS ip) k
theorem runK_eq : ∀ (k : Nat) (raw : Bool) (bt : Tm) (bh : H) (c : IC) (κ : KX) (t : TT) (d : DD) (h : HH) (n : Nat), runK ip k raw bt bh c κ t d h n = (run ip k raw bt bh c ⟨t, d, h, n⟩).bnd fun x => κ x.1 x.2.t x.2.d x.2.h x.2.n
  | 0, raw, bt, bh, c, κ, t, d, h, n => rfl
  | k + 1, raw, bt, bh, c, κ, t, d, h, n => by
    have hr : RnEq (runK ip k) (run ip k false) := fun bt bh c κ t d h n => runK_eq k false bt bh c κ t d h n
    have hr' := fun raw bt bh c κ t d h n => runK_eq k raw bt bh c κ t d h n
    show coK c (run ip k false) (runK ip k) (callF ip (runK ip k) bh k) (callR ip (run ip k false) bh k) (fnK ip (runK ip k) bh k) raw bt bh κ t d h n = _
    unfold run
    cases c with
    | skip => rfl
    | ops l =>
      show opsK l _ bt bh (κ .nm) t d h n = _
      rw [opsK_eq (callF_eq hr k)]
      simp only [bnd_bnd]; rfl
    | draw l =>
      show drawK l _ bt bh [] (κ .nm) t d h n = _
      rw [drawK_eq (callF_eq hr k)]
      simp only [bnd_bnd]; rfl
    | seq a b =>
      show runK ip k false bt bh a (X_seq (runK ip k) b bt bh κ) t d h n = _
      rw [hr']
      simp only [bnd_bnd]
      congr 1
      funext x
      obtain ⟨e, t, d, h, n⟩ := x
      cases e with
      | nm => exact hr' false bt bh b κ t d h n
      | exit i => rfl
      | ret => rfl
    | cond x a b =>
      show (match opdF x bt t with | .bool c => cond c (runK ip k false bt bh a κ t d h n) (runK ip k false bt bh b κ t d h n) | _ => .bad) = _
      rw [opdF_eq]
      simp only [S.ρ]
      generalize Opd.ev' (tv bt t) x = v
      cases v <;> try rfl
      simp only [bnd_cond, hr']
    | block id c =>
      show runK ip k false bt bh c (X_block id κ) t d h n = _
      rw [hr']
      simp only [bnd_bnd]
      congr 1
      funext x
      obtain ⟨e, t, d, h, n⟩ := x
      cases e <;> rfl
    | loop c =>
      show cond (!raw && c.nexts) _ _ = _
      simp only [bnd_cond]
      congr 1
      · rw [hr', bnd_bnd]
        have : (fun x : Ex × S => X_one x.1 x.2.t x.2.d x.2.h x.2.n) = .one := rfl
        rw [this, bnd_one]; rfl
      · rw [hr', bnd_bnd]
        congr 1
        funext x
        obtain ⟨e, t, d, h, n⟩ := x
        cases e with
        | nm => exact hr' true bt bh (.loop c) κ t d h n
        | exit i => rfl
        | ret => rfl
    | rangeFn f ps as bd =>
      show C_rangeFn f ps as bd C_skip C_skip (run ip k false) (runK ip k) (callF ip (runK ip k) bh k) (callR ip (run ip k false) bh k) (fnK ip (runK ip k) bh k) raw bt bh κ t d h n = _
      unfold C_rangeFn
      rw [opdF_eq]
      simp only [S.ρ]
      generalize Opd.ev' (tv bt t) f = v
      cases v <;> try rfl
      rename_i g first cap
      simp only [pp_pa]
      rw [fnK_eq hr, bnd_bnd]
      congr 1
      funext x
      skip
      cases hv bh x.2.1 (4 * n) with
      | none => rfl
      | some o =>
        cases o <;> try rfl
        simp only [bnd_cond]; rfl
    | exit id => rfl
    | ret => rfl
/-- A closed call's outcomes, by the faster form. -/
def X_end : KV := fun v h n => .one (.nm, ⟨.e, [(v, [])], h, n⟩)
def quick (ip : Ip) (B : H) (g : Nat) (args : List V) (n : Nat) (p : V → Bool) : Bool := (fnK ip (runK ip 100000) B 100000 g args .e n X_end).all fun x => match x.2.d with | (v, _) :: _ => p v | [] => false
theorem all_bnd {α β : Type} (f : α → β) (p : β → Bool) : ∀ o : Outs α, (o.bnd fun x => .one (f x)).all p = o.all fun x => p (f x)
  | .bad => rfl
  | .one x => rfl
  | .two a b => by simp only [Outs.bnd, Outs.all]; rw [all_bnd f p a, all_bnd f p b]
theorem quick_eq (B : H) (g : Nat) (args : List V) (n : Nat) (p : V → Bool) : quick ip B g args n p = (fnR ip (run ip 100000 false) B 100000 g args .e n).all fun x => p x.1 := by
  unfold quick
  rw [fnK_eq (fun bt bh c κ t d h n => runK_eq 100000 false bt bh c κ t d h n)]
  exact all_bnd (fun x : HO => ((.nm, ⟨.e, [(x.1, [])], x.2.1, x.2.2⟩) : Ex × S)) _ _
end Mir
end
