import Derived.Test.YtipnnfmgecbefaaGreatDoorI5
/- The interpreter, 6: what it tells of code is so. -/
set_option linter.unusedSimpArgs false
set_option linter.unusedVariables false
namespace Mir
open Go Outs
variable {f : Nm} {G bh h ha : H} {bt : Tm} {n : Nat} {s : S} {a : A} {pg : Pg} {ip : Ip} {ht : Tr (Option AObj)}

/-- What the interpreter is told of functions is so. -/
structure IpOk (pg : Pg) (ip : Ip) (G : H) : Prop where
  fns : ∀ f g, ip.fns.get f = some g → pg.fns f = some g
  hook : ∀ f args v, ip.hook f args = some v → ∀ (h : H) (Q : V → H → Prop), (∀ b o, G b = some o → h b = some o) → (∀ h' : H, (∀ b o, h b = some o → h' b = some o) → Q v h') → AC pg (.fn f) args h Q
theorem HI.ext {hc h' : H} (I : HI f G n hc h) (s : ∀ b o, h b = some o → h' b = some o) : HI f G n hc h' :=
  ⟨fun i o hi => by obtain ⟨b, o', p, q, r⟩ := I.at_ i o hi; exact ⟨b, o', p, s _ _ q, r⟩, I.inj, I.lt, I.big, I.glob, I.byt, fun b o hb => s _ _ (I.fr b o hb), I.frz⟩
def RunOk (pg : Pg) (G : H) (rn : Tm → H → IC → S → Outs (Ex × S)) : Prop := ∀ (f : Nm) (bt : Tm) (bh : H) (c : IC) (s : S) (a : A) (h : H) (Q : Ex → A → H → Prop),
  SI f G bt bh s a h → Sat (AfterC f G bt bh Q) (rn bt bh c s) → E (AC pg) c a h Q
def FnOk (pg : Pg) (G bh : H) (fn : Nat → List V → Tr (Option AObj) → Nat → Outs HO) : Prop := ∀ (f : Nm) (n : Nat) (ht : Tr (Option AObj)) (ha : H) (g : Nat) (args args' : List V) (Q : V → H → Prop),
  HI f G n (hv bh ht) ha → VIs f args args' → Sat (After' f G bh Q) (fn g args ht n) → AC pg (.fn g) args' ha Q
def AfterD (f : Nm) (G bh : H) (K : H → Prop) (x : Tr (Option AObj) × Nat) : Prop := ∀ (f' : Nm) (hb : H), f.le f' → HI f' G x.2 (hv bh x.1) hb → K hb
theorem dfr_rel {fn : Nat → List V → Tr (Option AObj) → Nat → Outs HO} (hf : FnOk pg G bh fn) : ∀ {ds ds' : List (V × List V)} {f : Nm} {ht : Tr (Option AObj)} {n : Nat} {ha : H} {K : H → Prop}, HI f G n (hv bh ht) ha → L2 (DI f) ds ds' →
    Sat (AfterD f G bh K) (dfrR fn ds ht n) → dfrE (AC pg) ds' ha K
  | [], ds', f, ht, n, ha, K, I, hd, hs => by rw [hd.nil_inv]; exact hs f ha (.refl f) I
  | (v, args) :: ds, ds', f, ht, n, ha, K, I, hd, hs => by
    obtain ⟨⟨v', args'⟩, ds'', rfl, ⟨h1, h2⟩, hd'⟩ := hd.cons_inv
    simp only [dfrR] at hs
    simp only at h1 h2
    split at hs
    · obtain ⟨as, cs, rfl, h3, h4⟩ := h1.inv
      simp only [dfrE]
      refine hf f n ht ha _ _ _ _ I ((h3.append h2).append h4) ((sat_bnd hs).imp fun x hx => ?_)
      intro f' hb v' l hv' I'
      exact dfr_rel hf I' (hd'.imp fun _ _ => DI.mono l) (hx.imp fun y hy f2 h2 l2 I2 => hy f2 h2 (l.trans l2) I2)
    · exact hs.elim
theorem resOf_rel {t t' : Tm} {hc : H} (hh : HO2 f hc h) (ht : ∀ i, VI f (t i) (t' i)) {r : Res} {v : V} (e : resOf t hc r = some v) : ∃ w, resOf t' h r = some w ∧ VI f v w := by
  cases r with
  | tmp i =>
    simp only [resOf] at e ⊢
    have := ht i
    generalize t i = x at *
    generalize t' i = y at *
    cases this <;> simp only at e <;> first | (cases e; done) | (cases e; refine ⟨_, rfl, ?_⟩; first | exact .bool _ | exact .int _ _ | exact .str _ | exact .ptr ‹_› | exact .nilptr | exact .sl ‹_› | exact .nilsl | exact .map ‹_› | exact .nilmap | exact .fn ‹_› ‹_› ‹_› ‹_› | exact .yield ‹_› | exact .nilfn | exact .iface ‹_› | exact .nilif | exact .agg ‹_› ‹_› | exact .tup ‹_› ‹_›)
  | cell i n g =>
    simp only [resOf] at e ⊢
    split at e
    · rename_i q
      have := ht i; rw [q] at this
      obtain ⟨b', h1, h2⟩ := this.inv
      rw [h2]; simp only
      split at e
      · rename_i q2
        obtain ⟨o', h3, h4⟩ := hh _ _ q2 _ h1
        obtain ⟨ds, rfl, h5⟩ := h4.cells
        rw [h3]; exact partOf_rel h5 e
      · cases e
    · cases e
theorem allSome_rel {t t' : Tm} {hc : H} (hh : HO2 f hc h) (ht : ∀ i, VI f (t i) (t' i)) : ∀ {rs : List Res} {vs : List V}, allSome (rs.map (resOf t hc)) = some vs → ∃ ws, allSome (rs.map (resOf t' h)) = some ws ∧ VIs f vs ws
  | [], vs, e => by simp only [List.map_nil, allSome] at e ⊢; cases e; exact ⟨_, rfl, .nil⟩
  | r :: rs, vs, e => by
    simp only [List.map_cons] at e ⊢
    unfold allSome at e
    split at e
    · rename_i q; cases q
    · rename_i v l q
      simp only [List.cons.injEq] at q
      obtain ⟨q1, q2⟩ := q
      obtain ⟨w, e1, e2⟩ := resOf_rel hh ht q1
      subst q2
      split at e
      · rename_i us q3; cases e
        obtain ⟨ws, e3, e4⟩ := allSome_rel hh ht q3
        refine ⟨w :: ws, ?_, .cons e2 e4⟩
        rw [e1]; simp only [allSome, e3]
      · cases e
    · cases e
theorem packed_rel {vs ws : List V} (h : VIs f vs ws) : VI f (packed vs) (packed ws) := by
  match vs, h with
  | [], h => rw [h.nil_inv]; exact .mkTup .nil
  | [v], h =>
    obtain ⟨w, ws', rfl, h1, h2⟩ := h.cons_inv
    rw [h2.nil_inv]; exact h1
  | v :: u :: vs, h =>
    obtain ⟨w, ws', rfl, h1, h2⟩ := h.cons_inv
    obtain ⟨x, ws'', rfl, h3, h4⟩ := h2.cons_inv
    exact .mkTup (.cons h1 (.cons h3 h4))
theorem start_rel {args args' : List V} (h : VIs f args args') (i : Nat) : VI f (start args i) (start args' i) := by
  simp only [start]
  cases e : args[i]? with
  | some v =>
    obtain ⟨w, e1, e2⟩ := h.get e
    rw [e1]; exact e2
  | none =>
    have : args'[i]? = none := by
      rw [List.getElem?_eq_none_iff] at e ⊢; rw [← h.1]; exact e
    rw [this]; exact .mkTup .nil
theorem params_rel : ∀ {ps : List Nat} {vs ws : List V} {t t' : Tm}, (∀ i, VI f (t i) (t' i)) → VIs f vs ws → ∀ i, VI f (params t ps vs i) (params t' ps ws i)
  | [], vs, ws, t, t', ht, hv, i => by
    simp only [params]; exact ht i
  | p :: ps, [], ws, t, t', ht, hv, i => by rw [hv.nil_inv]; simp only [params]; exact ht i
  | p :: ps, v :: vs, ws, t, t', ht, hv, i => by
    obtain ⟨w, ws', rfl, h1, h2⟩ := hv.cons_inv
    simp only [params]
    refine params_rel (fun j => ?_) h2 i
    simp only [upd]
    split
    · exact h1
    · exact ht j
theorem fn_rel {rn : Tm → H → IC → S → Outs (Ex × S)} (hi : IpOk pg ip G) (hr : RunOk pg G rn) : ∀ k, FnOk pg G bh (fnR ip rn bh k)
  | 0 => fun f n ht ha g args args' Q I hv hs => hs.elim
  | k + 1 => fun f n ht ha g args args' Q I hv hs => by
    simp only [fnR] at hs
    split at hs
    · rename_i v q
      obtain ⟨c, hs⟩ := sat_cond hs
      have hp := List.all_eq_true.1 c
      have e : args' = args := by
        refine List.ext_getElem? fun i => ?_
        cases e : args[i]? with
        | none => rw [List.getElem?_eq_none_iff] at e ⊢; rw [← hv.1]; exact e
        | some x =>
          obtain ⟨y, e1, e2⟩ := hv.get e
          rw [e1, e2.litEq 5 (hp x (List.mem_cons_of_mem _ (List.mem_of_getElem? e)))]
      rw [e]
      exact hi.hook g args v q ha Q I.fr fun h' s => hs f h' v (.refl f) (.lit 5 v (hp v (by simp))) (I.ext s)
    split at hs
    · exact hs.elim
    · rename_i gg hg
      obtain ⟨c, hs⟩ := sat_cond hs
      refine AC.fn (hi.fns _ _ hg) (by rw [← hv.1]; exact ble_le c) ?_
      refine hr f (start args) bh gg.body ⟨.e, [], ht, n⟩ _ _ _ ⟨fun i => start_rel hv i, .nil, I⟩ ((sat_bnd hs).imp fun x hx => ?_)
      intro f' a' h' l I'
      have key : ∀ {e : Ex}, e = .nm ∨ e = .ret → Sat (After' f G bh Q) ((dfrR (fnR ip rn bh k) x.2.d x.2.h x.2.n).bnd fun y => match allSome (gg.res.map (resOf (tv (start args) x.2.t) (Mir.hv bh y.1))) with
        | some vs => .one (packed vs, y.1, y.2)
        | none => .bad) → (e = .nm ∨ e = .ret) ∧ dfrE (AC pg) a'.d h' fun h'' => ∃ vs h3, allSome (gg.res.map (resOf a'.t h'')) = some vs ∧ Sub h3 h'' ∧ Q (packed vs) h3 := fun he hx => by
        refine ⟨he, dfr_rel (fn_rel hi hr k) I'.h I'.d ((sat_bnd hx).imp fun y hy => ?_)⟩
        intro f2 hb l2 I2
        split at hy
        · rename_i vs q
          obtain ⟨ws, q1, q2⟩ := allSome_rel I2.ho (fun i => (I'.t i).mono l2) q
          exact ⟨ws, hb, q1, fun _ _ => id, hy f2 hb _ (l.trans l2) (packed_rel q2) I2⟩
        · exact hy.elim
      obtain ⟨e, s'⟩ := x
      cases e with
      | nm => exact key (.inl rfl) hx
      | ret => exact key (.inr rfl) hx
      | exit i => exact hx.elim
theorem round_rel {rn : Tm → H → IC → S → Outs (Ex × S)} (hr : RunOk pg G rn) {l l' : Nat} (hl : f l = some l') {args args' : List V} {Q : V → H → Prop} (I : HI f G n (hv bh ht) ha) (hv : VIs f args args')
    (hs : Sat (After' f G bh Q) (roundR rn bh l args ht n)) : AC pg (.round l') args' ha Q := by
  unfold roundR at hs
  obtain ⟨c1, hs⟩ := sat_cond' hs
  split at hs
  · rename_i t ps as bd pd q
    obtain ⟨o', h1, h2⟩ := I.ho _ _ q _ hl
    obtain ⟨t', rfl, h3⟩ := h2.loop
    obtain ⟨c2, hs⟩ := sat_cond hs
    refine AC.fold ⟨t', ps, as, bd, pd, h1, by rw [beq_eq c2, hv.1], ?_⟩
    refine hr f (params t ps args) bh as ⟨.e, [], ht, n⟩ _ _ _ ⟨fun i => params_rel h3 hv i, .nil, I⟩ ((sat_bnd hs).imp fun x hx => ?_)
    intro f' a' h' l1 I'
    split at hx
    · rename_i t1 ps1 as1 bd1 pd1 q1 q2 q3
      have hd : a'.d = [] := by have := I'.d; rw [q2] at this; exact this.nil_inv
      obtain ⟨o', h4, h5⟩ := I'.h.ho _ _ q3 _ (l1 _ _ hl)
      obtain ⟨t1', rfl, h6⟩ := h5.loop
      refine ⟨q1, hd, t1', ps1, as1, bd1, pd1, h4, ?_⟩
      refine hr f' (params t ps args) bh bd ⟨x.2.t, [], _, x.2.n⟩ _ _ _ ⟨I'.t, by rw [hd]; exact .nil, I'.h.set (unfrozen c1) q3 (l1 _ _ hl) (o := .loop t1 ps1 as1 bd1 .busy pd1) (o' := .loop t1' ps1 as1 bd1 .busy pd1) ⟨h6, rfl, rfl, rfl, rfl, rfl⟩⟩ ((sat_bnd hx).imp fun y hy => ?_)
      intro f2 a2 h2' l2 I2
      split at hy
      · rename_i t2 ps2 as2 bd2 st2 pd2 q4 q5
        have hd2 : a2.d = [] := by have := I2.d; rw [q4] at this; exact this.nil_inv
        obtain ⟨o', h7, h8⟩ := I2.h.ho _ _ q5 _ (l2 _ _ (l1 _ _ hl))
        obtain ⟨t2', rfl, h9⟩ := h8.loop
        refine ⟨hd2, t2', ps2, as2, bd2, st2, pd2, _, h7, fun _ _ => id, ?_⟩
        exact hy f2 _ _ (l1.trans l2) (.bool _) (I2.h.set (unfrozen c1) q5 (l2 _ _ (l1 _ _ hl)) ⟨h9, rfl, rfl, rfl, rfl, rfl⟩)
      · exact hy.elim
    · exact hx.elim
  · exact hs.elim
theorem call_rel {rn : Tm → H → IC → S → Outs (Ex × S)} (hi : IpOk pg ip G) (hr : RunOk pg G rn) (k : Nat) : CallOk (AC pg) G bh (callR ip rn bh k) := by
  intro f n ht ha fv fv' args args' Q I hf hv hs
  unfold callR at hs
  split at hs
  · obtain ⟨as, cs, rfl, h3, h4⟩ := hf.inv
    exact fn_rel hi hr k f n ht ha _ _ _ Q I ((h3.append hv).append h4) hs
  · obtain ⟨l', h1, rfl⟩ := hf.inv
    exact round_rel hr h1 I hv hs
  · exact hs.elim
theorem E_loop_fold {c : IC} {Q : Ex → A → H → Prop} (hE : E (AC pg) c a h (andThen (fun a h => E (AC pg) (.loop c) a h Q) Q)) : E (AC pg) (.loop c) a h Q := by
  simp only [E]
  intro X hX
  refine hX _ _ (E_mono AC.mono (andThen_mono (fun a h q => ?_) fun _ _ _ => id) hE)
  simp only [E] at q
  exact q X hX
theorem run_rel (hi : IpOk pg ip G) : ∀ (k : Nat) (raw : Bool), RunOk pg G (run ip k raw)
  | 0, raw => fun f bt bh c s a h Q I hs => hs.elim
  | k + 1, raw => fun f bt bh c s a h Q I hs => by
    have R := run_rel hi k false
    have C : CallOk (AC pg) G bh (callR ip (run ip k false) bh k) := call_rel hi R k
    unfold run at hs
    cases c with
    | skip => exact hs f a h (.refl f) I
    | ops l =>
      simp only at hs
      simp only [E]
      refine ops_rel C l I ((sat_bnd hs).imp fun x hx => ?_)
      intro f' a' h' l1 I'; exact hx f' a' h' l1 I'
    | draw l =>
      simp only at hs
      simp only [E]
      refine draw_rel C l I .nil ((sat_bnd hs).imp fun x hx => ?_)
      intro f' a' h' l1 I'; exact hx f' a' h' l1 I'
    | seq x y =>
      simp only at hs
      simp only [E]
      refine R f bt bh x s a h _ I ((sat_bnd hs).imp fun z hz => ?_)
      intro f' a' h' l1 I'
      obtain ⟨e, s'⟩ := z
      cases e with
      | nm => exact R f' bt bh y s' a' h' Q I' (hz.imp fun w hw f2 a2 h2 l2 I2 => hw f2 a2 h2 (l1.trans l2) I2)
      | ret => exact hz f' a' h' l1 I'
      | exit i => exact hz f' a' h' l1 I'
    | cond x c d =>
      simp only at hs
      simp only [E]
      split at hs
      · rename_i b q
        have := I.ρ x; rw [q] at this
        have := this.inv; simp only at this
        rw [this]; simp only
        cases b
        · exact ⟨fun e => (by cases e), fun _ => R f bt bh d s a h Q I hs⟩
        · exact ⟨fun _ => R f bt bh c s a h Q I hs, fun e => (by cases e)⟩
      · exact hs.elim
    | block id c =>
      simp only at hs
      simp only [E]
      refine R f bt bh c s a h _ I ((sat_bnd hs).imp fun z hz => ?_)
      intro f' a' h' l1 I'
      obtain ⟨e, s'⟩ := z
      cases e with
      | nm => exact hz f' a' h' l1 I'
      | ret => exact hz f' a' h' l1 I'
      | exit i =>
        have := hz f' a' h' l1 I'
        simp only [atBlock]
        split
        · rename_i c; subst c; simpa [Nat.beq_refl] using this
        · rename_i c
          have : Nat.beq i id = false := by cases e : Nat.beq i id; rfl; exact absurd (beq_eq e) c
          rename_i t
          rw [this] at t; exact t
    | loop c =>
      simp only at hs
      rcases sat_ite hs with ⟨_, hs⟩ | ⟨_, hs⟩
      · refine run_rel hi k true f (tv bt s.t) (hv bh s.h) (.loop c) ⟨.e, s.d, .e, s.n⟩ a h Q ⟨I.t, I.d, I.h⟩ (joined_rel ((sat_bnd hs).imp fun x hx => ?_))
        intro f' a' h' l1 I'
        refine hx f' a' h' l1 ⟨fun i => ?_, I'.d, ?_⟩
        · rw [tv_over]; exact I'.t i
        · rw [hv_over]; exact I'.h
      · refine E_loop_fold (R f bt bh c s a h _ I ((sat_bnd hs).imp fun z hz => ?_))
        intro f' a' h' l1 I'
        obtain ⟨e, s'⟩ := z
        cases e with
        | nm => exact run_rel hi k true f' bt bh (.loop c) s' a' h' Q I' (hz.imp fun w hw f2 a2 h2 l2 I2 => hw f2 a2 h2 (l1.trans l2) I2)
        | ret => exact hz f' a' h' l1 I'
        | exit i => exact hz f' a' h' l1 I'
    | rangeFn g ps as bd =>
      simp only at hs
      simp only [E]
      intro l hl
      split at hs
      · rename_i g' first cap q
        have := I.ρ g; rw [q] at this
        obtain ⟨fs, cs, e, h1, h2⟩ := this.inv
        rw [e]; simp only
        obtain ⟨f', l1, l2, l3⟩ := I.h.fresh (by_ := false) (o := .loop (tv bt s.t) ps as bd .ready none) (o' := .loop a.t ps as bd .ready none) hl (fun e => by cases e) fun f' l1 _ => ⟨fun i => (I.t i).mono l1, rfl, rfl, rfl, rfl, rfl⟩
        simp only [cond_false] at l2 l3
        refine fn_rel hi R k f' _ _ _ _ _ _ _ l3 (((h1.mono l1).append (.cons (.yield l2) .nil)).append (h2.mono l1)) ((sat_bnd hs).imp fun x hx => ?_)
        intro f2 hb v' l4 hv' I2
        split at hx
        · rename_i st pd q2
          obtain ⟨c, hx⟩ := sat_cond' hx
          obtain ⟨o', h3, h4⟩ := I2.ho _ _ q2 _ (l4 _ _ l2)
          obtain ⟨t', rfl, h5⟩ := h4.loop
          refine ⟨_, _, _, _, _, _, h3, by simpa using c, ?_⟩
          refine hx f2 a _ (l1.trans l4) ⟨fun i => (I.t i).mono (l1.trans l4), I.d.imp fun _ _ => DI.mono (l1.trans l4), ?_⟩
          simp only
          rw [hv_put]
          exact HI.put I2 (by have := I.h.big; omega) (by rw [q2]; simp) (l4 _ _ l2) fun y e => by cases e
        · exact hx.elim
      · exact hs.elim
    | exit id => exact hs f a h (.refl f) I
    | ret => exact hs f a h (.refl f) I
/-- A closed call, from what lies in memory at first: B says of it, by the interpreter's names, what is looked at. -/
theorem run_closed {g : Nat} {B : H} {f0 : Nm} {p : V → Bool} {Q : V → H → Prop} (hi : IpOk pg ip h) (k n : Nat) (I : HI f0 h n B h)
    (hr : (fnR ip (run ip k false) B k g [] .e n).all (fun x => p x.1) = true) (hq : ∀ (f : Nm) v w h', p v = true → VI f v w → (∀ b o, h b = some o → h' b = some o) → Q w h') : AC pg (.fn g) [] h Q := by
  refine fn_rel hi (run_rel hi k false) k f0 n .e h g [] [] Q I .nil ((sat_all hr).imp fun x hx => ?_)
  intro f' hb v' l hv' I'
  exact hq f' _ _ hb hx hv' I'.fr
end Mir
