import Derived.Test.YtipnnfmgecbefaaGreatDoorMir25
/- An interpreter of the mirror's code, with names of its own for blocks: what it does. -/
set_option linter.unusedSimpArgs false
set_option linter.unusedVariables false
noncomputable section
namespace Mir
open Go

/-- Things by number. -/
inductive Tr (α : Type) where
  | e
  | n (v : Option α) (l r : Tr α)
namespace Tr
variable {α : Type}
noncomputable def get (t : Tr α) : Nat → Option α :=
  Tr.rec (motive := fun _ => Nat → Option α) (fun _ => none)
    (fun v _ _ gl gr i => Bool.rec (Bool.rec (gr (Nat.pred (Nat.div i 2))) (gl (Nat.div i 2)) (Nat.beq (Nat.mod i 2) 1)) v (Nat.beq i 0)) t
theorem get_e (i : Nat) : (Tr.e : Tr α).get i = none := rfl
theorem get_n (v : Option α) (l r : Tr α) (i : Nat) : (Tr.n v l r).get i = cond (Nat.beq i 0) v (cond (Nat.beq (i % 2) 1) (l.get (i / 2)) (r.get (i / 2 - 1))) := by
  show Bool.rec (motive := fun _ => Option α) (Bool.rec (motive := fun _ => Option α) (r.get (Nat.pred (Nat.div i 2))) (l.get (Nat.div i 2)) (Nat.beq (Nat.mod i 2) 1)) v (Nat.beq i 0) = _
  show _ = cond (Nat.beq i 0) v (cond (Nat.beq (Nat.mod i 2) 1) (l.get (Nat.div i 2)) (r.get (Nat.pred (Nat.div i 2))))
  cases Nat.beq i 0 <;> cases Nat.beq (Nat.mod i 2) 1 <;> rfl
noncomputable def set (k : Nat) : Tr α → Nat → α → Tr α :=
  Nat.rec (motive := fun _ => Tr α → Nat → α → Tr α) (fun _ _ _ => .e)
    (fun _ ih t i x => Tr.rec (motive := fun _ => Tr α)
      (Bool.rec (Bool.rec (.n none .e (ih .e (Nat.pred (Nat.div i 2)) x)) (.n none (ih .e (Nat.div i 2) x) .e) (Nat.beq (Nat.mod i 2) 1)) (.n (some x) .e .e) (Nat.beq i 0))
      (fun v l r _ _ => Bool.rec (Bool.rec (.n v l (ih r (Nat.pred (Nat.div i 2)) x)) (.n v (ih l (Nat.div i 2) x) r) (Nat.beq (Nat.mod i 2) 1)) (.n (some x) l r) (Nat.beq i 0)) t) k
theorem set_z (t : Tr α) (i : Nat) (x : α) : set 0 t i x = .e := rfl
theorem set_e (k i : Nat) (x : α) : set (k + 1) .e i x = cond (Nat.beq i 0) (.n (some x) .e .e) (cond (Nat.beq (i % 2) 1) (.n none (set k .e (i / 2) x) .e) (.n none .e (set k .e (i / 2 - 1) x))) := by
  show Bool.rec (motive := fun _ => Tr α) (Bool.rec (motive := fun _ => Tr α) (Tr.n none Tr.e (set k Tr.e (Nat.pred (Nat.div i 2)) x)) (Tr.n none (set k Tr.e (Nat.div i 2) x) Tr.e) (Nat.beq (Nat.mod i 2) 1)) (Tr.n (some x) Tr.e Tr.e) (Nat.beq i 0) = _
  show _ = cond (Nat.beq i 0) (Tr.n (some x) Tr.e Tr.e) (cond (Nat.beq (Nat.mod i 2) 1) (Tr.n none (set k Tr.e (Nat.div i 2) x) Tr.e) (Tr.n none Tr.e (set k Tr.e (Nat.pred (Nat.div i 2)) x)))
  cases Nat.beq i 0 <;> cases Nat.beq (Nat.mod i 2) 1 <;> rfl
theorem set_n (k i : Nat) (x : α) (v : Option α) (l r : Tr α) : set (k + 1) (.n v l r) i x = cond (Nat.beq i 0) (.n (some x) l r) (cond (Nat.beq (i % 2) 1) (.n v (set k l (i / 2) x) r) (.n v l (set k r (i / 2 - 1) x))) := by
  show Bool.rec (motive := fun _ => Tr α) (Bool.rec (motive := fun _ => Tr α) (Tr.n v l (set k r (Nat.pred (Nat.div i 2)) x)) (Tr.n v (set k l (Nat.div i 2) x) r) (Nat.beq (Nat.mod i 2) 1)) (Tr.n (some x) l r) (Nat.beq i 0) = _
  show _ = cond (Nat.beq i 0) (Tr.n (some x) l r) (cond (Nat.beq (Nat.mod i 2) 1) (Tr.n v (set k l (Nat.div i 2) x) r) (Tr.n v l (set k r (Nat.pred (Nat.div i 2)) x)))
  cases Nat.beq i 0 <;> cases Nat.beq (Nat.mod i 2) 1 <;> rfl
noncomputable def put (t : Tr α) (i : Nat) (x : α) : Tr α := set (Nat.succ i) t i x
/-- What stands in the first, else in the second. -/
def over : Tr α → Tr α → Tr α
  | .e, b => b
  | .n v l r, .e => .n v l r
  | .n v l r, .n v' l' r' => .n (match v with | some x => some x | none => v') (over l l') (over r r')
def keys : Tr α → (Nat → Nat) → List Nat
  | .e, _ => []
  | .n v l r, g => (match v with | some _ => [g 0] | none => []) ++ (keys l (fun i => g (2 * i + 1)) ++ keys r (fun i => g (2 * i + 2)))
end Tr

/-- What may come of it: by chance one or another; 'bad': nothing is told. -/
inductive Outs (σ : Type) where
  | bad
  | one (x : σ)
  | two (a b : Outs σ)
namespace Outs
variable {σ τ : Type}
def bnd (k : σ → Outs τ) : Outs σ → Outs τ
  | .bad => .bad
  | .one x => k x
  | .two a b => .two (bnd k a) (bnd k b)
def Sat (P : σ → Prop) : Outs σ → Prop
  | .bad => False
  | .one x => P x
  | .two a b => Sat P a ∧ Sat P b
def alts : List (Outs σ) → Outs σ
  | [] => .bad
  | [x] => x
  | x :: y :: xs => .two x (alts (y :: xs))
def all (p : σ → Bool) : Outs σ → Bool
  | .bad => false
  | .one x => p x
  | .two a b => all p a && all p b
end Outs

/-- Values that stand in the code: no blocks in them. -/
def V.lit : Nat → V → Bool
  | 0, _ => false
  | k + 1, v => match v with
    | .bool _ | .int _ _ | .str _ | .nilptr | .nilsl | .nilmap | .nilfn | .nilif => true
    | .fn _ a b => a.all (V.lit k) && b.all (V.lit k)
    | .iface _ v => V.lit k v
    | .agg cs | .tup cs => cs.all (V.lit k)
    | _ => false
/-- The same value, for certain. -/
def sameL (f : V → V → Bool) : List V → List V → Bool
  | [], [] => true
  | a :: as, b :: bs => f a b && sameL f as bs
  | _, _ => false
def V.sameN : Nat → V → V → Bool
  | 0, _, _ => false
  | k + 1, v, w => match v, w with
    | .bool a, .bool b => a == b
    | .int k a, .int k' b => decide (k = k') && a == b
    | .str a, .str b => a == b
    | .ptr b o, .ptr b' o' => Nat.beq b b' && Nat.beq o o'
    | .nilptr, .nilptr => true
    | .sl b o e n, .sl b' o' e' n' => Nat.beq b b' && Nat.beq o o' && Nat.beq e e' && Nat.beq n n'
    | .nilsl, .nilsl => true
    | .map b, .map b' => Nat.beq b b'
    | .nilmap, .nilmap => true
    | .nilfn, .nilfn => true
    | .nilif, .nilif => true
    | .agg a, .agg b => sameL (V.sameN k) a b
    | .tup a, .tup b => sameL (V.sameN k) a b
    | .iface t a, .iface t' b => Nat.beq t t' && V.sameN k a b
    | .fn f a c, .fn f' b d => Nat.beq f f' && (sameL (V.sameN k) a b && sameL (V.sameN k) c d)
    | _, _ => false
abbrev V.same : V → V → Bool := V.sameN 5
/-- What is temporary: what was set since, else what stood there. -/
noncomputable def tv (bt : Tm) (t : Tr V) : Tm := fun i => match t.get i with | some v => v | none => bt i
noncomputable def hv (bh : H) (h : Tr (Option AObj)) : H := fun i => match h.get i with | some o => o | none => bh i
def Opd.ev' (t : Tm) : Opd → V
  | .tmp i => t i
  | .c v => cond (v.lit 5) v .undef
  | .glob g => cond (Nat.ble 500 g) .undef (.ptr g 0)

/-- The zero values that stand in the code. -/
def lits (l : List V) : Bool := l.all (V.lit 5)
def PK.okc : PK → Bool
  | .build z _ => lits z
  | _ => true
def RK.okc : RK → Bool
  | .lookup _ z _ _ _ => z.lit 5
  | .idxSub _ _ _ => false
  | _ => true
def AK.okc : AK → Bool
  | .alloc z | .allocW z | .mkSl z _ _ _ | .make z _ _ _ _ => lits z
  | _ => true
/-- A new piece's number. -/
def AK.nm (n : Nat) : AK → Nat
  | .make _ _ bytes _ _ => cond (Nat.beq bytes 1) (4 * n + 1) (4 * n)
  | .allocW _ => 4 * n + 2
  | _ => 4 * n

structure S where
  t : Tr V
  d : List (V × List V)
  h : Tr (Option AObj)
  n : Nat
def putT (t : Tr V) (d : Option Nat) (v : V) : Tr V := match d with | some d => t.put d v | none => t
abbrev HO := V × Tr (Option AObj) × Nat
/-- May a block be written? -/
def frozen (b : Nat) : Bool := Nat.ble b 999

section
variable (call : V → List V → Tr (Option AObj) → Nat → Outs HO) (ρ : Opd → V) (bh : H)
def HK.run (h : Tr (Option AObj)) (n : Nat) : HK → Outs HO
  | .store k x v =>
    match ρ x with
    | .ptr b o => cond (frozen b) .bad <| match hv bh h b with
      | some (.cells cs false) => cond (Nat.beq (ρ v).cells.length k && Nat.ble (o + k) cs.length && (ρ v).cells.all V.flat) (.one (.undef, h.put b (some (.cells (cs.take o ++ (ρ v).cells ++ cs.drop (o + k)) false)), n)) .bad
      | _ => .bad
    | _ => .bad
  | .call f args => call (ρ f) (args.map ρ) h n
  | .app es bytes x y =>
    match srcCells es (hv bh h) (ρ y) with
    | none => .bad
    | some (k, new) =>
      match ρ x with
      | .nilsl => cond (Nat.beq k 0) (.one (.nilsl, h, n)) <| cond (Nat.ble (k * bytes) 1099511627776 && Nat.ble k 1099511627776)
          (.one (.sl (cond (Nat.beq bytes 1) (4 * n + 1) (4 * n)) 0 es k, h.put (cond (Nat.beq bytes 1) (4 * n + 1) (4 * n)) (some (.cells new false)), n + 1)) .bad
      | .sl b o es' len =>
        cond (Nat.beq k 0) (cond (Nat.beq es es') (.one (.sl b o es len, h, n)) .bad) <|
        cond (frozen b) .bad <|
        match hv bh h b with
        | some (.cells cs false) => cond (Nat.beq es es' && Nat.ble (o + len * es) cs.length && Nat.ble ((len + k) * bytes) 1099511627776 && Nat.ble (len + k) 1099511627776)
            (.one (.sl (cond (Nat.beq bytes 1 && Nat.beq (b % 2) 1) (4 * n + 1) (4 * n)) 0 es (len + k), (h.put b none).put (cond (Nat.beq bytes 1 && Nat.beq (b % 2) 1) (4 * n + 1) (4 * n)) (some (.cells ((cs.drop o).take (len * es) ++ new) false)), n + 1)) .bad
        | _ => .bad
      | _ => .bad
  | .copy es x y =>
    match srcCells es (hv bh h) (ρ y) with
    | none => .bad
    | some (k, new) =>
      match ρ x with
      | .nilsl => .one (.int .i64 0, h, n)
      | .sl b o es' len =>
        cond (frozen b) .bad <|
        match hv bh h b with
        | some (.cells cs false) => cond (Nat.beq es es' && Nat.ble (o + len * es) cs.length)
          (.one (.int .i64 (min k len : Nat), h.put b (some (.cells (cs.take o ++ new.take (min k len * es) ++ cs.drop (o + min k len * es)) false)), n)) .bad
        | _ => .bad
      | _ => .bad
  | .mapUpd kc m k v =>
    match ρ m with
    | .map b => cond (frozen b) .bad <| match hv bh h b with
      | some (.map es clock) => match keyEq kc (ρ k) (ρ k) with
        | some true => match findK kc (ρ k) es with
          | some (some _) => .one (.undef, h.put b (some (.map (setK kc (ρ k) (ρ v) es) clock)), n)
          | some none => .one (.undef, h.put b (some (.map (es ++ [(ρ k, ρ v, clock)]) (clock + 1))), n)
          | none => .bad
        | _ => .bad
      | _ => .bad
    | _ => .bad
  | .mapEntry kc zero m k =>
    match ρ m with
    | .map b => cond (frozen b) .bad <| match hv bh h b with
      | some (.map es clock) => match keyEq kc (ρ k) (ρ k) with
        | some true => match findK kc (ρ k) es with
          | some (some (v, u)) => .one (.tup [v, .int .i64 u], h.put b (some (.map (setK kc (ρ k) v es) clock)), n)
          | some none => cond (zero.lit 5) (.one (.tup [zero, .int .i64 clock], h.put b (some (.map (es ++ [(ρ k, zero, clock)]) (clock + 1))), n)) .bad
          | none => .bad
        | _ => .bad
      | _ => .bad
    | _ => .bad
  | .entryStore m s v =>
    match ρ m, ρ s with
    | .map b, .int .i64 (.ofNat u) => cond (frozen b) .bad <| match hv bh h b with
      | some (.map es clock) => cond (findBorn u es).isSome (.one (.undef, h.put b (some (.map (setBorn u (ρ v) es) clock)), n)) .bad
      | _ => .bad
    | _, _ => .bad
  | .delete kc m k =>
    match ρ m with
    | .map b => cond (frozen b) .bad <| match hv bh h b with
      | some (.map es clock) => match keyEq kc (ρ k) (ρ k) with
        | some true => match findK kc (ρ k) es with
          | some _ => .one (.undef, h.put b (some (.map (delK kc (ρ k) es) clock)), n)
          | none => .bad
        | _ => .bad
      | _ => .bad
    | _ => .bad
  | .range m =>
    match ρ m with
    | .nilmap => .one (.ptr (4 * n) 0, h.put (4 * n) (some (.iter none 0 [] 0)), n + 1)
    | .map b => match hv bh h b with
      | some (.map _ clock) => .one (.ptr (4 * n) 0, h.put (4 * n) (some (.iter (some b) clock [] clock)), n + 1)
      | _ => .bad
    | _ => .bad
  | .next it =>
    match ρ it with
    | .ptr i 0 => match hv bh h i with
      | some (.iter none _ _ _) => .one (.tup [.bool false], h, n)
      | some (.iter (some m) since seen stepped) => cond (frozen i) .bad <| match hv bh h m with
        | some (.map es clock) => cond (!seen.isEmpty && !es.isEmpty && es.all fun e => decide (stepped ≤ e.2.2)) .bad <|
          .alts ((candidates es since seen).map fun x => match x with
            | some e => .one (.tup [.bool true, e.1, e.2.1], h.put i (some (.iter (some m) since (seen ++ [e.2.2]) clock)), n)
            | none => .one (.tup [.bool false], h, n))
        | _ => .bad
      | _ => .bad
    | _ => .bad
  | .rangeStr s => match ρ s with | .str s => .one (.ptr (4 * n) 0, h.put (4 * n) (some (.sit s 0)), n + 1) | _ => .bad
  | .nextStr it =>
    match ρ it with
    | .ptr i 0 => match hv bh h i with
      | some (.sit s pos) => cond (frozen i) .bad <|
        cond (Nat.blt pos s.length) (.one (.tup [.bool true, .int .i64 pos, .int .i32 (Utf8.decode ⟨s.toArray⟩ pos).1], h.put i (some (.sit s (pos + (Utf8.decode ⟨s.toArray⟩ pos).2))), n))
        (.one (.tup [.bool false], h, n))
      | _ => .bad
    | _ => .bad
  | .clone x =>
    match ρ x with
    | .iface t (.map b) => match hv bh h b with
      | some (.map es clock) => .one (.iface t (.map (4 * n)), h.put (4 * n) (some (.map es clock)), n + 1)
      | _ => .bad
    | _ => .bad
  | .ustr p k =>
    match ρ k with
    | .int .i64 (.ofNat k) => cond (Nat.ble k 9223372036854775807) (match ρ p with
      | .nilptr => cond (Nat.beq k 0) (.one (.str [], h, n)) .bad
      | .ptr b o => cond (Nat.beq k 0) (.one (.str [], h, n)) <|
        cond (frozen b || Nat.beq (b % 2) 0 || Nat.ble b 1000) .bad <|
        match hv bh h b with
        | some (.cells cs false) => cond (Nat.ble (o + k) cs.length) (match bytesOf ((cs.drop o).take k) with
          | some s => .one (.str s, h.put b (some (.cells cs true)), n)
          | none => .bad) .bad
        | _ => .bad
      | _ => .bad) .bad
    | _ => .bad
  | .dfr _ _ => .bad
end

section
variable (call : V → List V → Tr (Option AObj) → Nat → Outs HO) (bt : Tm) (bh : H)
def S.ρ (s : S) : Opd → V := Opd.ev' (tv bt s.t)
def stepR (o : IOp) (s : S) : Outs (V × S) :=
  match o.k with
  | .p k => cond k.okc (match k.ev (s.ρ bt) with | some v => .one (v, ⟨putT s.t o.dst v, s.d, s.h, s.n⟩) | none => .bad) .bad
  | .r k => cond k.okc (match k.ev (s.ρ bt) (hv bh s.h) with | some v => .one (v, ⟨putT s.t o.dst v, s.d, s.h, s.n⟩) | none => .bad) .bad
  | .a k => cond k.okc (match k.ev (s.ρ bt) with
    | some (x, f) => .one (f (k.nm s.n), ⟨putT s.t o.dst (f (k.nm s.n)), s.d, s.h.put (k.nm s.n) (some x), s.n + 1⟩)
    | none => .bad) .bad
  | .h (.dfr f args) => match s.ρ bt f with
    | .fn g first cap => .one (.undef, ⟨putT s.t o.dst .undef, (.fn g first cap, args.map (s.ρ bt)) :: s.d, s.h, s.n⟩)
    | _ => .bad
  | .h k => (k.run call (s.ρ bt) bh s.h s.n).bnd fun x => .one (x.1, ⟨putT s.t o.dst x.1, s.d, x.2.1, x.2.2⟩)
/-- Is it done? (none: that isn't known) -/
def wantedR (s : S) : Option (Nat × Bool) → Option Bool
  | none => some true
  | some (j, b) => match tv bt s.t j with
    | .bool c => some (c == b)
    | .tup [] => some false
    | _ => none
def opsR : List IOp → S → Outs S
  | [], s => .one s
  | o :: l, s => match wantedR bt s o.guard with
    | some true => (stepR call bt bh o s).bnd fun x => opsR l x.2
    | some false => opsR l ⟨putT s.t o.dst (.tup []), s.d, s.h, s.n⟩
    | none => .bad
abbrev RW := List (Nat × RK × S × V)
def heldR (W : RW) (l : List Nat) (h : Tr (Option AObj)) : Bool :=
  W.all fun x => !l.contains x.1 || match x.2.1.ev (x.2.2.1.ρ bt) (hv bh h) with | some v => v.same x.2.2.2 | none => false
def drawR : List IOp → RW → S → Outs S
  | [], _, s => .one s
  | o :: l, W, s => match wantedR bt s o.guard with
    | some true => match o.k with
      | .r k => (stepR call bt bh o s).bnd fun x => drawR l ((o.id, k, s, x.1) :: W) x.2
      | .h _ => (stepR call bt bh o s).bnd fun x => cond (o.watch.isEmpty || heldR bt bh W o.watch x.2.h) (drawR l W x.2) .bad
      | _ => (stepR call bt bh o s).bnd fun x => drawR l W x.2
    | some false => drawR l W ⟨putT s.t o.dst (.tup []), s.d, s.h, s.n⟩
    | none => .bad
end

/-- Is a map gone through here? -/
def nexts : List IOp → Bool
  | [] => false
  | o :: l => (match o.k with | .h (.next _) => true | _ => false) || nexts l
def IC.nexts : IC → Bool
  | .ops l | .draw l => Mir.nexts l
  | .seq a b | .cond _ a b => a.nexts || b.nexts
  | .block _ c => c.nexts
  | _ => false

/-! Ways out of a loop that are alike. -/
def undefs : Tr V → Tr V
  | .e => .e
  | .n v l r => .n (v.map fun _ => .undef) (undefs l) (undefs r)
def joinV : Option V → Option V → Option V
  | some v, some w => some (cond (v.same w) v .undef)
  | none, none => none
  | _, _ => some .undef
def joinT : Tr V → Tr V → Tr V
  | .e, t => undefs t
  | t, .e => undefs t
  | .n v l r, .n v' l' r' => .n (joinV v v') (joinT l l') (joinT r r')
/-- What is left of memory behind a loop: nothing that is new; iterators are forgotten; none: more was turned. -/
def cleanK (bh : H) (h : Tr (Option AObj)) : List Nat → Option (Tr (Option AObj))
  | [] => some .e
  | i :: l => match cleanK bh h l with
    | none => none
    | some t => match bh i with
      | none => some t
      | some _ => match h.get i with
        | some (some (.iter _ _ _ _)) | some none => some (t.put i none)
        | _ => none
def cleanT (bh : H) (h : Tr (Option AObj)) : Option (Tr (Option AObj)) := cleanK bh h (h.keys id)
def joinS (bh : H) (x y : Ex × S) : Option (Ex × S) :=
  cond (decide (x.1 = y.1) && x.2.d.isEmpty && y.2.d.isEmpty) (match cleanT bh x.2.h, cleanT bh y.2.h with
    | some a, some b => some (x.1, ⟨joinT x.2.t y.2.t, [], a.over b, max x.2.n y.2.n⟩)
    | _, _ => none) none
def joinIn (bh : H) (x : Ex × S) : List (Ex × S) → List (Ex × S)
  | [] => [x]
  | y :: l => match joinS bh x y with
    | some z => z :: l
    | none => y :: joinIn bh x l
def joinAll (bh : H) : Outs (Ex × S) → Option (List (Ex × S)) → Option (List (Ex × S))
  | .bad, _ => none
  | .one x, some l => some (joinIn bh x l)
  | .one _, none => none
  | .two a b, l => joinAll bh b (joinAll bh a l)
def joined (bh : H) (o : Outs (Ex × S)) : Outs (Ex × S) := match o with
  | .bad => .bad
  | .one x => .one x
  | .two a b => match joinAll bh (.two a b) (some []) with
    | none => .bad
    | some l => .alts (l.map .one)

/-- The functions; what is known of some without their code: plain values of plain values. -/
structure Ip where
  fns : Tr Fn
  hook : Nat → List V → Option V
def dfrR (fn : Nat → List V → Tr (Option AObj) → Nat → Outs HO) : List (V × List V) → Tr (Option AObj) → Nat → Outs (Tr (Option AObj) × Nat)
  | [], h, n => .one (h, n)
  | (f, args) :: ds, h, n => match f with
    | .fn f first cap => (fn f (first ++ args ++ cap) h n).bnd fun x => dfrR fn ds x.2.1 x.2.2
    | _ => .bad
/-- Code, run. -/
def fnR (pg : Ip) (rn : Tm → H → IC → S → Outs (Ex × S)) (bh : H) : Nat → Nat → List V → Tr (Option AObj) → Nat → Outs HO
  | 0, _, _, _, _ => .bad
  | k + 1, f, args, h, n => match pg.hook f args with
   | some v => cond (lits (v :: args)) (.one (v, h, n)) .bad
   | none => match pg.fns.get f with
    | none => .bad
    | some g => cond (Nat.ble args.length g.n) ((rn (start args) bh g.body ⟨.e, [], h, n⟩).bnd fun x => match x.1 with
      | .exit _ => .bad
      | _ => (dfrR (fnR pg rn bh k) x.2.d x.2.h x.2.n).bnd fun y => match allSome (g.res.map (resOf (tv (start args) x.2.t) (hv bh y.1))) with
        | some vs => .one (packed vs, y.1, y.2)
        | none => .bad) .bad
def roundR (rn : Tm → H → IC → S → Outs (Ex × S)) (bh : H) (l : Nat) (args : List V) (h : Tr (Option AObj)) (n : Nat) : Outs HO :=
  cond (frozen l) .bad <| match hv bh h l with
  | some (.loop t ps as bd .ready pd) => cond (Nat.beq ps.length args.length) ((rn (params t ps args) bh as ⟨.e, [], h, n⟩).bnd fun x =>
      match x.1, x.2.d, hv bh x.2.h l with
      | .nm, [], some (.loop t1 ps1 as1 bd1 .ready pd1) => (rn (params t ps args) bh bd ⟨x.2.t, [], x.2.h.put l (some (.loop t1 ps1 as1 bd1 .busy pd1)), x.2.n⟩).bnd fun y =>
        match y.2.d, hv bh y.2.h l with
        | [], some (.loop t2 ps2 as2 bd2 st2 pd2) => .one (.bool (y.1 == .nm), y.2.h.put l (some (.loop t2 ps2 as2 bd2 (endSt y.1) (endPd y.1))), y.2.n)
        | _, _ => .bad
      | _, _, _ => .bad) .bad
  | _ => .bad
def callR (pg : Ip) (rn : Tm → H → IC → S → Outs (Ex × S)) (bh : H) (k : Nat) : V → List V → Tr (Option AObj) → Nat → Outs HO
  | .fn f first cap, args, h, n => fnR pg rn bh k f (first ++ args ++ cap) h n
  | .yield l, args, h, n => roundR rn bh l args h n
  | _, _, _, _ => .bad
/-- raw: a loop's later rounds. -/
def run (pg : Ip) : Nat → Bool → Tm → H → IC → S → Outs (Ex × S)
  | 0, _, _, _, _, _ => .bad
  | k + 1, raw, bt, bh, c, s => match c with
    | .skip => .one (.nm, s)
    | .ops l => (opsR (callR pg (run pg k false) bh k) bt bh l s).bnd fun s => .one (.nm, s)
    | .draw l => (drawR (callR pg (run pg k false) bh k) bt bh l [] s).bnd fun s => .one (.nm, s)
    | .seq a b => (run pg k false bt bh a s).bnd fun x => match x.1 with
      | .nm => run pg k false bt bh b x.2
      | _ => .one x
    | .cond x a b => match s.ρ bt x with
      | .bool b' => cond b' (run pg k false bt bh a s) (run pg k false bt bh b s)
      | _ => .bad
    | .block id c => (run pg k false bt bh c s).bnd fun x => match x.1 with
      | .exit i => .one (cond (Nat.beq i id) .nm (.exit i), x.2)
      | _ => .one x
    | .loop c => cond (!raw && c.nexts)
      ((joined (hv bh s.h) (run pg k true (tv bt s.t) (hv bh s.h) (.loop c) ⟨.e, s.d, .e, s.n⟩)).bnd fun x => .one (x.1, ⟨x.2.t.over s.t, x.2.d, x.2.h.over s.h, x.2.n⟩))
      ((run pg k false bt bh c s).bnd fun x => match x.1 with
        | .nm => run pg k true bt bh (.loop c) x.2
        | _ => .one x)
    | .rangeFn f ps as bd => match s.ρ bt f with
      | .fn g first cap => (fnR pg (run pg k false) bh k g (first ++ [.yield (4 * s.n)] ++ cap) (s.h.put (4 * s.n) (some (.loop (tv bt s.t) ps as bd .ready none))) (s.n + 1)).bnd fun x =>
        match hv bh x.2.1 (4 * s.n) with
        | some (.loop _ _ _ _ st pd) => cond (decide (st = .busy)) .bad (.one (pd.getD .nm, ⟨s.t, s.d, x.2.1.put (4 * s.n) none, x.2.2⟩))
        | _ => .bad
      | _ => .bad
    | .exit id => .one (.exit id, s)
    | .ret => .one (.ret, s)
end Mir
end
