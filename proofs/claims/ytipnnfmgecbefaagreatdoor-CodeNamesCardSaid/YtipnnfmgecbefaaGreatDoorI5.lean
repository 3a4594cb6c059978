import Derived.Test.YtipnnfmgecbefaaGreatDoorI4
/- The interpreter, 5: code. -/
set_option linter.unusedSimpArgs false
set_option linter.unusedVariables false
namespace Mir
open Go Outs

/-- A state of the interpreter's, told of the mirror's. -/
def DI (f : Nm) (x y : V × List V) : Prop := VI f x.1 y.1 ∧ VIs f x.2 y.2
structure SI (f : Nm) (G : H) (bt : Tm) (bh : H) (s : S) (a : A) (h : H) : Prop where
  t : ∀ i, VI f (tv bt s.t i) (a.t i)
  d : L2 (DI f) s.d a.d
  h : HI f G s.n (hv bh s.h) h
variable {f : Nm} {G bh h : H} {bt : Tm} {n : Nat} {call : CP} {cr : V → List V → Tr (Option AObj) → Nat → Outs HO} {s : S} {a : A}
theorem DI.mono {f f' : Nm} (l : f.le f') {x y : V × List V} (h : DI f x y) : DI f' x y := ⟨h.1.mono l, h.2.mono l⟩
theorem SI.ρ (I : SI f G bt bh s a h) (x : Opd) : VI f (s.ρ bt x) (Opd.ev a.t x) := ev'_rel I.h I.t x
theorem putT_rel {t : Tr V} {t' : Tm} (ht : ∀ i, VI f (tv bt t i) (t' i)) {v w : V} (hv : VI f v w) (d : Option Nat) (i : Nat) : VI f (tv bt (putT t d v) i) (put t' d w i) := by
  rw [tv_putT]
  cases d with
  | none => exact ht i
  | some d =>
    simp only [put, upd]
    split
    · exact hv
    · exact ht i
theorem SI.put (I : SI f G bt bh s a h) {v w : V} (hv : VI f v w) (d : Option Nat) : SI f G bt bh ⟨putT s.t d v, s.d, s.h, s.n⟩ { a with t := put a.t d w } h :=
  ⟨putT_rel I.t hv d, I.d, I.h⟩
theorem SI.turn {f' : Nm} (I : SI f G bt bh s a h) (l : f.le f') {v w : V} (hw : VI f' v w) (d : Option Nat) {ht : Tr (Option AObj)} {n' : Nat} {h' : H} (hh : HI f' G n' (hv bh ht) h') :
    SI f' G bt bh ⟨putT s.t d v, s.d, ht, n'⟩ { a with t := Mir.put a.t d w } h' :=
  ⟨putT_rel (fun i => (I.t i).mono l) hw d, I.d.imp fun _ _ => DI.mono l, hh⟩
/-- What is asked of an operation's outcome. -/
def AfterS (f : Nm) (G : H) (bt : Tm) (bh : H) (K : V → V → Nm → A → H → Prop) (x : V × S) : Prop := ∀ (f' : Nm) (w : V) (a' : A) (h' : H), f.le f' → VI f' x.1 w → SI f' G bt bh x.2 a' h' → K x.1 w f' a' h'
theorem step_rel (hcall : CallOk call G bh cr) (I : SI f G bt bh s a h) (o : IOp) {K : V → A → H → Prop}
    (hs : Sat (AfterS f G bt bh fun _ w _ a' h' => K w a' h') (stepR cr bt bh o s)) : stepE call o a h K := by
  unfold stepR at hs
  unfold stepE
  cases hk : o.k with
  | p k =>
    rw [hk] at hs
    obtain ⟨c, hs⟩ := sat_cond hs
    split at hs
    · rename_i v q
      obtain ⟨w, q1, q2⟩ := PK_rel I.ρ c q
      simp only [q1]
      exact hs f w _ _ (.refl f) q2 (I.put q2 _)
    · exact hs.elim
  | r k =>
    rw [hk] at hs
    obtain ⟨c, hs⟩ := sat_cond hs
    split at hs
    · rename_i v q
      obtain ⟨w, q1, q2⟩ := RK_rel I.ρ I.h.ho I.h.byt c q
      simp only [q1]
      exact hs f w _ _ (.refl f) q2 (I.put q2 _)
    · exact hs.elim
  | a k =>
    rw [hk] at hs
    obtain ⟨c, hs⟩ := sat_cond hs
    split at hs
    · rename_i x g q
      obtain ⟨x', g', q1, q2, q3⟩ := AK_rel I.ρ c q
      simp only [q1]
      intro b hb hB
      obtain ⟨f', l1, l2, l3⟩ := I.h.freshA (k := k) (o := x) (o' := x') hb hB fun f' l _ => q2.mono l
      exact hs f' _ _ _ l1 (q3 f' _ _ l2) (I.turn l1 (q3 f' _ _ l2) _ l3)
    · exact hs.elim
  | h k =>
    rw [hk] at hs
    have gen : (∀ f as, k ≠ .dfr f as) → Sat (AfterS f G bt bh fun _ w _ a' h' => K w a' h') ((k.run cr (s.ρ bt) bh s.h s.n).bnd fun x => .one (x.1, ⟨putT s.t o.dst x.1, s.d, x.2.1, x.2.2⟩)) →
        k.E call (Opd.ev a.t) h fun v h' => K v { a with t := put a.t o.dst v } h' := fun hn hs => by
      refine HK_rel hcall I.h I.ρ k ((sat_bnd hs).imp fun x hx => ?_)
      intro f' hb v' l hv' hh
      exact hx f' v' _ _ l hv' (I.turn l hv' _ hh)
    cases k with
    | dfr g args =>
      simp only at hs ⊢
      split at hs
      · rename_i g' first cap q
        have := I.ρ g; rw [q] at this
        obtain ⟨bs, ds, e, h1, h2⟩ := this.inv
        rw [e]; simp only
        refine hs f .undef _ _ (.refl f) (.und _) ⟨putT_rel I.t (.und _) _, .cons ⟨.mkFn h1 h2, map_rel I.ρ args⟩ I.d, I.h⟩
      · exact hs.elim
    | store k x v => exact gen (fun _ _ e => by cases e) hs
    | call f args => exact gen (fun _ _ e => by cases e) hs
    | app es bytes x y => exact gen (fun _ _ e => by cases e) hs
    | copy es x y => exact gen (fun _ _ e => by cases e) hs
    | mapUpd kc m k v => exact gen (fun _ _ e => by cases e) hs
    | mapEntry kc z m k => exact gen (fun _ _ e => by cases e) hs
    | entryStore m s v => exact gen (fun _ _ e => by cases e) hs
    | delete kc m k => exact gen (fun _ _ e => by cases e) hs
    | range m => exact gen (fun _ _ e => by cases e) hs
    | next it => exact gen (fun _ _ e => by cases e) hs
    | rangeStr s => exact gen (fun _ _ e => by cases e) hs
    | nextStr it => exact gen (fun _ _ e => by cases e) hs
    | clone x => exact gen (fun _ _ e => by cases e) hs
    | ustr p k => exact gen (fun _ _ e => by cases e) hs
theorem wanted_rel (I : SI f G bt bh s a h) {g : Option (Nat × Bool)} {r : Bool} (e : wantedR bt s g = some r) : guardOk a.t g ∧ wantedE a.t g = r := by
  cases g with
  | none => simp only [wantedR] at e; cases e; exact ⟨trivial, rfl⟩
  | some g =>
    obtain ⟨j, b⟩ := g
    simp only [wantedR] at e
    have := I.t j
    split at e
    · rename_i c q; cases e
      rw [q] at this; have := this.inv; simp only at this
      exact ⟨.inl ⟨c, this⟩, by simp only [wantedE, this]⟩
    · rename_i q; cases e
      rw [q] at this; obtain ⟨bs, e1, e2⟩ := this.inv
      rw [e2.nil_inv] at e1
      exact ⟨.inr e1, by simp only [wantedE, e1]⟩
    · cases e
def AfterO (f : Nm) (G : H) (bt : Tm) (bh : H) (K : A → H → Prop) (x : S) : Prop := ∀ (f' : Nm) (a' : A) (h' : H), f.le f' → SI f' G bt bh x a' h' → K a' h'
theorem ops_rel (hcall : CallOk call G bh cr) : ∀ (l : List IOp) {f : Nm} {s : S} {a : A} {h : H} {K : A → H → Prop}, SI f G bt bh s a h → Sat (AfterO f G bt bh K) (opsR cr bt bh l s) → opsE call l a h K
  | [], f, s, a, h, K, I, hs => hs f a h (.refl f) I
  | o :: l, f, s, a, h, K, I, hs => by
    simp only [opsR] at hs
    simp only [opsE]
    split at hs
    · rename_i q
      obtain ⟨g1, g2⟩ := wanted_rel I q
      refine ⟨g1, ?_⟩
      rw [if_pos g2]
      refine step_rel hcall I o ((sat_bnd hs).imp fun x hx => ?_)
      intro f' w a' h' l1 hw I'
      exact ops_rel hcall l I' (Sat.imp (fun y hy f2 a2 h2 l2 I2 => hy f2 a2 h2 (l1.trans l2) I2) hx)
    · rename_i q
      obtain ⟨g1, g2⟩ := wanted_rel I q
      refine ⟨g1, ?_⟩
      rw [if_neg (by rw [g2]; simp)]
      exact ops_rel hcall l (I.put (.mkTup .nil) o.dst) hs
    · exact hs.elim
/-- The reads. -/
def WI (f : Nm) (bt : Tm) (x : Nat × RK × S × V) (y : Nat × Rd × V) : Prop :=
  x.1 = y.1 ∧ x.2.1.okc = true ∧ ∃ ρ' : Opd → V, (∀ z, VI f (x.2.2.1.ρ bt z) (ρ' z)) ∧ y.2.1 = x.2.1.rd ρ' ∧ VI f x.2.2.2 y.2.2
theorem WI.mono {f f' : Nm} (l : f.le f') {x : Nat × RK × S × V} {y : Nat × Rd × V} (h : WI f bt x y) : WI f' bt x y := by
  obtain ⟨h1, h2, ρ', h3, h4, h5⟩ := h
  exact ⟨h1, h2, ρ', fun z => (h3 z).mono l, h4, h5.mono l⟩
theorem held_rel {W : RW} {W' : Reads} (hW : L2 (WI f bt) W W') {ht : Tr (Option AObj)} (I : HI f G n (hv bh ht) h) {l : List Nat} (e : heldR bt bh W l ht = true) : W'.hold l h := by
  intro y hy hl
  obtain ⟨i, hi, rfl⟩ := List.mem_iff_getElem.1 hy
  have hi' : i < W.length := by rw [hW.1]; exact hi
  obtain ⟨h1, h2, ρ', h3, h4, h5⟩ := hW.2 i _ _ (List.getElem?_eq_getElem hi') (List.getElem?_eq_getElem hi)
  have := List.all_eq_true.1 e _ (List.getElem_mem hi')
  simp only [Bool.or_eq_true, Bool.not_eq_true'] at this
  rcases this with c | c
  · rw [h1] at c
    have : l.contains (W'[i]).1 = true := by simpa using hl
    rw [this] at c; cases c
  · split at c
    · rename_i v q
      obtain ⟨w, q1, q2⟩ := RK_rel h3 I.ho I.byt h2 q
      rw [h4]
      show RK.ev ρ' h _ = _
      rw [q1, VI.one c q2 h5 (.inl (.refl f))]
    · cases c
theorem stepR_r {o : IOp} {k : RK} (hk : o.k = .r k) {P : V × S → Prop} (hs : Sat P (stepR cr bt bh o s)) : k.okc = true ∧ ∃ v, k.ev (s.ρ bt) (hv bh s.h) = some v ∧ P (v, ⟨putT s.t o.dst v, s.d, s.h, s.n⟩) := by
  unfold stepR at hs
  rw [hk] at hs
  obtain ⟨c, hs⟩ := sat_cond hs
  refine ⟨c, ?_⟩
  split at hs
  · rename_i v q; exact ⟨v, q, hs⟩
  · exact hs.elim
theorem draw_rel (hcall : CallOk call G bh cr) : ∀ (l : List IOp) {f : Nm} {s : S} {a : A} {h : H} {W : RW} {W' : Reads} {K : A → H → Prop}, SI f G bt bh s a h → L2 (WI f bt) W W' → Sat (AfterO f G bt bh K) (drawR cr bt bh l W s) → drawE call l W' a h K
  | [], f, s, a, h, W, W', K, I, hW, hs => hs f a h (.refl f) I
  | o :: l, f, s, a, h, W, W', K, I, hW, hs => by
    simp only [drawR] at hs
    simp only [drawE]
    split at hs
    · rename_i q
      obtain ⟨g1, g2⟩ := wanted_rel I q
      refine ⟨g1, ?_⟩
      rw [if_pos g2]
      have more : ∀ {f'} {x : V × S} {a' h'} {Wx : RW} {Wy : Reads}, f.le f' → SI f' G bt bh x.2 a' h' → L2 (WI f' bt) Wx Wy → Sat (AfterO f G bt bh K) (drawR cr bt bh l Wx x.2) → drawE call l Wy a' h' K := fun l1 I' hW' hx =>
        draw_rel hcall l I' hW' (Sat.imp (fun y hy f2 a2 h2 l2 I2 => hy f2 a2 h2 (l1.trans l2) I2) hx)
      cases hk : o.k with
      | r k =>
        rw [hk] at hs
        simp only at hs ⊢
        obtain ⟨c, v, q3, hx⟩ := stepR_r hk (sat_bnd hs)
        obtain ⟨w, q1, q2⟩ := RK_rel I.ρ I.h.ho I.h.byt c q3
        unfold stepE
        rw [hk]; simp only [q1]
        exact more (.refl f) (I.put q2 _) (.cons ⟨rfl, c, Opd.ev a.t, I.ρ, rfl, q2⟩ hW) hx
      | h k =>
        rw [hk] at hs
        simp only at hs ⊢
        refine step_rel hcall I o ((sat_bnd hs).imp fun x hx => ?_)
        intro f' w a' h' l1 hw I'
        obtain ⟨c, hx⟩ := sat_cond hx
        refine ⟨?_, more l1 I' (hW.imp fun _ _ => WI.mono l1) hx⟩
        simp only [Bool.or_eq_true] at c
        rcases c with c | c
        · rw [List.isEmpty_iff] at c; rw [c]; intro y _ hy; cases hy
        · exact held_rel (hW.imp fun _ _ => WI.mono l1) I'.h c
      | p k =>
        rw [hk] at hs
        simp only at hs ⊢
        refine step_rel hcall I o ((sat_bnd hs).imp fun x hx => ?_)
        intro f' w a' h' l1 hw I'
        exact more l1 I' (hW.imp fun _ _ => WI.mono l1) hx
      | a k =>
        rw [hk] at hs
        simp only at hs ⊢
        refine step_rel hcall I o ((sat_bnd hs).imp fun x hx => ?_)
        intro f' w a' h' l1 hw I'
        exact more l1 I' (hW.imp fun _ _ => WI.mono l1) hx
    · rename_i q
      obtain ⟨g1, g2⟩ := wanted_rel I q
      refine ⟨g1, ?_⟩
      rw [if_neg (by rw [g2]; simp)]
      exact draw_rel hcall l (I.put (.mkTup .nil) o.dst) hW hs
    · exact hs.elim

/-! Ways out that are joined. -/
theorem undefs_get : ∀ (t : Tr V) (i : Nat), (undefs t).get i = (t.get i).map fun _ => V.undef
  | .e, i => rfl
  | .n v l r, i => by
    simp only [undefs, Tr.get]
    cases Nat.beq i 0
    · simp only [cond_false]
      cases Nat.beq (i % 2) 1
      · exact undefs_get r _
      · exact undefs_get l _
    · rfl
/-- The one tells no more than the other. -/
def Less (x y : Option V) : Prop := x = y ∨ (x = some .undef ∧ ∃ v, y = some v) ∨ (x = some .undef ∧ y = none)
theorem joinV_less (x y : Option V) : Less (joinV x y) x ∧ Less (joinV x y) y := by
  cases x <;> cases y <;> simp only [joinV]
  · exact ⟨.inl rfl, .inl rfl⟩
  · exact ⟨.inr (.inr ⟨rfl, rfl⟩), .inr (.inl ⟨rfl, _, rfl⟩)⟩
  · exact ⟨.inr (.inl ⟨rfl, _, rfl⟩), .inr (.inr ⟨rfl, rfl⟩)⟩
  · rename_i v w
    cases e : v.same w
    · exact ⟨.inr (.inl ⟨rfl, _, rfl⟩), .inr (.inl ⟨rfl, _, rfl⟩)⟩
    · have := V.same_eq e; subst this; exact ⟨.inl rfl, .inl rfl⟩
theorem joinT_less : ∀ (x y : Tr V) (i : Nat), Less ((joinT x y).get i) (x.get i) ∧ Less ((joinT x y).get i) (y.get i)
  | .e, t, i => by
    have : joinT .e t = undefs t := by cases t <;> rfl
    rw [this, undefs_get]
    cases e : t.get i with
    | none => exact ⟨.inl rfl, .inl rfl⟩
    | some v => exact ⟨.inr (.inr ⟨rfl, rfl⟩), .inr (.inl ⟨rfl, _, rfl⟩)⟩
  | .n v l r, .e, i => by
    have : joinT (.n v l r) .e = undefs (.n v l r) := rfl
    rw [this, undefs_get]
    cases e : (Tr.n v l r).get i with
    | none => exact ⟨.inl rfl, .inl rfl⟩
    | some v => exact ⟨.inr (.inl ⟨rfl, _, rfl⟩), .inr (.inr ⟨rfl, rfl⟩)⟩
  | .n v l r, .n v' l' r', i => by
    simp only [joinT, Tr.get]
    cases Nat.beq i 0
    · simp only [cond_false]
      cases Nat.beq (i % 2) 1
      · exact joinT_less r r' _
      · exact joinT_less l l' _
    · exact joinV_less v v'
theorem less_rel {t t' : Tr V} {tm : Tm} (hl : ∀ i, Less (t'.get i) (t.get i)) (ht : ∀ i, VI f (tv bt t i) (tm i)) (i : Nat) : VI f (tv bt t' i) (tm i) := by
  have := ht i
  simp only [tv] at this ⊢
  rcases hl i with e | ⟨e, _⟩ | ⟨e, _⟩
  · rw [e]; exact this
  · rw [e]; exact .und _
  · rw [e]; exact .und _
theorem clean_get {ht : Tr (Option AObj)} : ∀ {l : List Nat} {t : Tr (Option AObj)}, cleanK bh ht l = some t → ∀ i, (∀ o, t.get i ≠ some (some o)) ∧ (i ∈ l → t.get i = none → bh i = none)
  | [], t, e, i => by simp only [cleanK, Option.some.injEq] at e; subst e; exact ⟨fun o => by simp [Tr.get_e], fun h => by cases h⟩
  | j :: l, t, e, i => by
    simp only [cleanK] at e
    split at e
    · cases e
    · rename_i t' q
      obtain ⟨h1, h2⟩ := clean_get q i
      split at e
      · rename_i q2; cases e
        refine ⟨h1, fun hi => ?_⟩
        rcases List.mem_cons.1 hi with rfl | hi
        · exact fun _ => q2
        · exact h2 hi
      · have key : some (t'.put j none) = some t → (∀ o, t.get i ≠ some (some o)) ∧ (i ∈ j :: l → t.get i = none → bh i = none) := fun e => by
          cases e
          refine ⟨fun o => ?_, fun hi => ?_⟩
          · rw [Tr.get_put]
            split
            · simp
            · exact h1 o
          · rw [Tr.get_put]
            split
            · intro h; cases h
            · rename_i hn
              rcases List.mem_cons.1 hi with rfl | hi
              · exact absurd rfl hn
              · exact h2 hi
        split at e
        · exact key e
        · exact key e
        · cases e
theorem clean_less {ht t u : Tr (Option AObj)} (e : cleanT bh ht = some t) (hu : ∀ i, u.get i = none → t.get i = none) (hn : ∀ i o, u.get i ≠ some (some o)) : ∀ i o, hv bh u i = some o → hv bh ht i = some o := fun i o hi => by
  cases q : u.get i with
  | some x =>
    cases x with
    | none => simp only [hv, q] at hi; cases hi
    | some x => exact absurd q (hn i x)
  | none =>
    simp only [hv, q] at hi
    cases q2 : ht.get i with
    | none => simp only [hv, q2]; exact hi
    | some x =>
      have := (clean_get e i).2 (Tr.mem_keys ht id i (by rw [q2]; simp)) (hu i q)
      rw [this] at hi; cases hi
def AfterC (f : Nm) (G : H) (bt : Tm) (bh : H) (Q : Ex → A → H → Prop) (x : Ex × S) : Prop := ∀ (f' : Nm) (a' : A) (h' : H), f.le f' → SI f' G bt bh x.2 a' h' → Q x.1 a' h'
theorem joinS_rel {x y z : Ex × S} {Q : Ex → A → H → Prop} (e : joinS bh x y = some z) (hz : AfterC f G bt bh Q z) : AfterC f G bt bh Q x ∧ AfterC f G bt bh Q y := by
  unfold joinS at e
  generalize hc : (decide (x.1 = y.1) && x.2.d.isEmpty && y.2.d.isEmpty) = c at e
  cases c
  · cases e
  · simp only [cond_true] at e
    split at e
    · rename_i ta tb qa qb
      cases e
      simp only [Bool.and_eq_true, decide_eq_true_eq, List.isEmpty_iff] at hc
      obtain ⟨⟨c1, c2⟩, c3⟩ := hc
      have hn : ∀ i o, (ta.over tb).get i ≠ some (some o) := fun i o => by
        rw [Tr.get_over]
        cases q : ta.get i with
        | none => exact (clean_get qb i).1 o
        | some w => simp only; rw [← q]; exact (clean_get qa i).1 o
      have ha : ∀ i, (ta.over tb).get i = none → ta.get i = none := fun i h => by
        rw [Tr.get_over] at h
        cases q : ta.get i with
        | none => rfl
        | some w => rw [q] at h; cases h
      have hb : ∀ i, (ta.over tb).get i = none → tb.get i = none := fun i h => by
        rw [Tr.get_over] at h
        cases q : ta.get i with
        | none => rw [q] at h; exact h
        | some w => rw [q] at h; cases h
      constructor
      · intro f' a' h' l I
        refine hz f' a' h' l ⟨less_rel (fun i => (joinT_less _ _ i).1) I.t, ?_, I.h.less (clean_less qa ha hn) (Nat.le_max_left _ _)⟩
        have := I.d; rw [c2] at this; exact this
      · intro f' a' h' l I
        have := hz f' a' h' l ⟨less_rel (fun i => (joinT_less _ _ i).2) I.t, ?_, I.h.less (clean_less qb hb hn) (Nat.le_max_right _ _)⟩
        · simp only at this; rw [← c1]; exact this
        · have := I.d; rw [c3] at this; exact this
    · cases e
theorem joinIn_rel {Q : Ex → A → H → Prop} {x : Ex × S} : ∀ {l : List (Ex × S)}, (∀ z ∈ joinIn bh x l, AfterC f G bt bh Q z) → AfterC f G bt bh Q x ∧ ∀ z ∈ l, AfterC f G bt bh Q z
  | [], h => ⟨h x (by simp [joinIn]), fun z hz => by cases hz⟩
  | y :: l, h => by
    simp only [joinIn] at h
    split at h
    · rename_i z q
      obtain ⟨h1, h2⟩ := joinS_rel q (h z (by simp))
      refine ⟨h1, fun w hw => ?_⟩
      rcases List.mem_cons.1 hw with rfl | hw
      · exact h2
      · exact h w (by simp [hw])
    · obtain ⟨h1, h2⟩ := joinIn_rel (l := l) fun z hz => h z (List.mem_cons_of_mem _ hz)
      refine ⟨h1, fun w hw => ?_⟩
      rcases List.mem_cons.1 hw with rfl | hw
      · exact h w (by simp)
      · exact h2 w hw
theorem joinAll_rel {Q : Ex → A → H → Prop} : ∀ {o : Outs (Ex × S)} {l : Option (List (Ex × S))} {r : List (Ex × S)}, joinAll bh o l = some r → (∀ z ∈ r, AfterC f G bt bh Q z) → Sat (AfterC f G bt bh Q) o ∧ ∃ l', l = some l' ∧ ∀ z ∈ l', AfterC f G bt bh Q z
  | .bad, l, r, e, h => by cases e
  | .one x, none, r, e, h => by cases e
  | .one x, some l, r, e, h => by
    simp only [joinAll, Option.some.injEq] at e; subst e
    obtain ⟨h1, h2⟩ := joinIn_rel h
    exact ⟨h1, l, rfl, h2⟩
  | .two a b, l, r, e, h => by
    simp only [joinAll] at e
    obtain ⟨h1, l', e2, h2⟩ := joinAll_rel e h
    obtain ⟨h3, l'', e3, h4⟩ := joinAll_rel e2 h2
    exact ⟨⟨h3, h1⟩, l'', e3, h4⟩
theorem joined_rel {Q : Ex → A → H → Prop} {o : Outs (Ex × S)} (h : Sat (AfterC f G bt bh Q) (joined bh o)) : Sat (AfterC f G bt bh Q) o := by
  cases o with
  | bad => exact h
  | one x => exact h
  | two a b =>
    simp only [joined] at h
    split at h
    · exact h.elim
    · rename_i l q
      exact (joinAll_rel q fun z hz => sat_alts h _ (List.mem_map_of_mem hz)).1
end Mir
