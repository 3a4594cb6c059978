import Derived.Test.YtipnnfmgecbefaaGreatDoorMir12
import Derived.Test.YtipnnfmgecbefaaGreatDoorMir16
import Derived.Orders
/- The mirror, part 35: a call is told ahead of what is made beside it. -/
set_option linter.unusedSimpArgs false
set_option linter.unusedVariables false
namespace Mir
open Go
variable {P : Program} {μ μ' : Mu} {h h' : H} {w w' : World} {b : Nat} {o : AObj}
theorem R.isFin (r : R P μ h w) : Fin h := by
  obtain ⟨N, hN⟩ := r.fin
  refine ⟨N, fun b hb => ?_⟩
  cases e : h b with
  | none => rfl
  | some o => obtain ⟨L, _, e', _⟩ := r.at_ b o e; rw [hN b hb] at e'; cases e'
theorem sub_hadd (hb : h b = none) : Sub h (hadd h b o) := fun c x hc => hadd_some hb hc
/-- A piece of memory that is not looked at stays as it is. -/
theorem St.frame (hb : h b = none) (r : R P μ (hadd h b o) w) (st : St P μ h w μ' h' w') : h' b = none ∧ St P μ (hadd h b o) w μ' (hadd h' b o) w' := by
  obtain ⟨L, x, hL, hx, hor⟩ := r.at_ b o (by simp [hadd, hset])
  have hlt : L.B < w.heap.size := (Array.getElem?_eq_some_iff.1 hx).1
  have hno : ¬ Own μ h L.B := by
    rintro ⟨c, oc, Lc, hc, hro, hLc, e⟩
    have hne : c ≠ b := fun e => by subst e; rw [hb] at hc; cases hc
    exact r.inj c b oc o Lc L (hadd_some hb hc) (by simp [hadd, hset]) hne hLc hL hro e
  have hb' : h' b = none := by
    cases e : h' b with
    | none => rfl
    | some y =>
      rcases st.fresh b (by rw [e]; simp) with e1 | ⟨e1, _⟩
      · exact absurd hb e1
      · rw [hL] at e1; cases e1
  have hown : ∀ B, Own μ h B → Own μ (hadd h b o) B := fun B ⟨c, oc, Lc, hc, q⟩ => ⟨c, oc, Lc, hadd_some hb hc, q⟩
  have hLB : ∀ (c : Nat) (oc : AObj) (Lc : Loc), h' c = some oc → μ' c = some Lc → (o.ro = false ∨ oc.ro = false) → Lc.B ≠ L.B := by
    intro c oc Lc hc hLc hro e
    rcases st.fresh c (by rw [hc]; simp) with e1 | ⟨e1, e2⟩
    · cases e3 : h c with
      | none => exact e1 e3
      | some oc0 =>
        obtain ⟨L0, _, hL0, _⟩ := r.at_ c oc0 (hadd_some hb e3)
        have e4 := st.le c L0 hL0
        rw [hLc] at e4; cases e4
        have hne : b ≠ c := fun e => by subst e; rw [hb] at e3; cases e3
        rcases hro with hro | hro
        · exact r.inj b c o oc0 L Lc (by simp [hadd, hset]) (hadd_some hb e3) hne hL hL0 hro e.symm
        · rcases st.own Lc.B ⟨c, oc, Lc, hc, hro, hLc, rfl⟩ with e5 | e5
          · exact hno (e ▸ e5)
          · rw [e] at e5; omega
    · rcases e2 Lc hLc with e5 | e5
      · exact hno (e ▸ e5)
      · rw [e] at e5; omega
  refine ⟨hb', st.le, ⟨st.rel.fin, fun c y hc => ?_, fun c c' y y' K K' hc hc' hne hK hK' hro => ?_, st.rel.glob, fun c y K z hc hK hz => ?_⟩, st.size, fun B hB hn => st.kept B hB fun q => hn (hown B q), fun B ⟨c, y, K, hc, hro, hK, e⟩ => ?_, fun c hc => ?_, st.os, st.tape, st.output⟩
  · by_cases e : c = b
    · subst e
      simp only [hadd, hset, if_true, Option.some.injEq] at hc
      subst hc
      exact ⟨L, x, st.le _ _ hL, by rw [st.kept _ hlt hno]; exact hx, hor.mono P st.le⟩
    · rw [hadd_ne e] at hc; exact st.rel.at_ c y hc
  · by_cases e : c = b
    · subst e
      rw [hadd_ne (Ne.symm hne)] at hc'
      simp only [hadd, hset, if_true, Option.some.injEq] at hc
      subst hc
      have := st.le _ _ hL
      rw [hK] at this; cases this
      exact (hLB c' y' K' hc' hK' (.inl hro)).symm
    · rw [hadd_ne e] at hc
      by_cases e' : c' = b
      · subst e'
        have := st.le _ _ hL
        rw [hK'] at this; cases this
        exact hLB c y K hc hK (.inr hro)
      · rw [hadd_ne e'] at hc'
        exact st.rel.inj c c' y y' K K' hc hc' hne hK hK' hro
  · by_cases e : c = b
    · subst e
      have := st.le _ _ hL
      rw [hK] at this; cases this
      rw [st.kept _ hlt hno] at hz
      exact r.byt c o L z (by simp [hadd, hset]) hL hz
    · rw [hadd_ne e] at hc
      exact st.rel.byt c y K z hc hK hz
  · by_cases e1 : c = b
    · subst e1
      simp only [hadd, hset, if_true, Option.some.injEq] at hc
      subst hc
      have := st.le _ _ hL
      rw [hK] at this; cases this
      exact .inl ⟨c, o, L, by simp [hadd, hset], hro, hL, e⟩
    · rw [hadd_ne e1] at hc
      rcases st.own B ⟨c, y, K, hc, hro, hK, e⟩ with q | q
      · exact .inl (hown B q)
      · exact .inr q
  · by_cases e1 : c = b
    · subst e1; exact .inl (by simp [hadd, hset])
    · rw [hadd_ne e1] at hc
      rcases st.fresh c hc with q | ⟨q1, q2⟩
      · exact .inl (by rw [hadd_ne e1]; exact q)
      · exact .inr ⟨q1, fun K hK => (q2 K hK).imp (hown _) id⟩
theorem snd_frame {f : Nat} {args : List V} {Q : V → H → Prop} (hs : Snd P (.fn f) args h Q) (hb : h b = none) : Snd P (.fn f) args (hadd h b o) fun v h'' => ∃ h', h' b = none ∧ h'' = hadd h' b o ∧ Q v h' := by
  intro μ w args' hv r
  refine (hs μ w args' hv (r.sub (sub_hadd hb))).mono fun d w' ⟨v, h', μ', q, hvd, st⟩ => ?_
  obtain ⟨hb', st'⟩ := st.frame hb r
  exact ⟨v, _, μ', ⟨h', hb', rfl, q⟩, hvd, st'⟩
theorem snd_fin {f : Nat} {args : List V} {Q : V → H → Prop} (hs : Snd P (.fn f) args h Q) : Snd P (.fn f) args h fun v h' => Fin h' ∧ Q v h' := fun μ w args' hv r =>
  (hs μ w args' hv r).mono fun d w' ⟨v, h', μ', q, hvd, st⟩ => ⟨v, h', μ', ⟨st.rel.isFin, q⟩, hvd, st⟩
theorem plainCall_inv {k : Kind} (e : k.plainCall = true) : ∃ g as, k = .h (.call (.c (.fn g [] [])) as) := by
  unfold Kind.plainCall at e
  split at e
  · exact ⟨_, _, rfl⟩
  · cases e
theorem mono_snd : Mono (Snd P) := fun c args h Q Q' hq a => Snd.mono hq a
theorem doE_call {x : IOp} {W : Reads} {a : A} {K : Reads → A → H → Prop} {g : Nat} {as : List Opd} (hw : wantedE a.t x.guard = true) (hk : x.k = .h (.call (.c (.fn g [] [])) as)) :
    doE (Snd P) x W a h K ↔ guardOk a.t x.guard ∧ Snd P (.fn g) (as.map (Opd.ev a.t)) h fun v h' => W.hold x.watch h' ∧ K W { a with t := put a.t x.dst v } h' := by
  rw [doE_h hw hk]
  unfold stepE
  rw [hk]
  simp only [HK.E, Opd.ev, callV, List.nil_append, List.append_nil]
/-- An operation that may come first is ready. -/
def Ready (y : IOp) (a : A) : Prop := guardOk a.t y.guard ∧ (wantedE a.t y.guard = true → match y.k with | .p k => (k.ev (Opd.ev a.t)).isSome = true | .a k => (k.ev (Opd.ev a.t)).isSome = true | _ => False)
theorem Ready.put {y : IOp} {a : A} {d : Option Nat} {v : V} (hb : y.blind d) : Ready y { a with t := put a.t d v } ↔ Ready y a := by
  obtain ⟨g1, g2⟩ := blind_guard hb a.t v
  have hops := blind_opds hb a.t v
  unfold Ready
  simp only [g1, g2]
  refine and_congr Iff.rfl ?_
  cases hk : y.k with
  | p k => rw [hk] at hops; simp only [Kind.opds] at hops; simp only [PK.congr hops]
  | a k => rw [hk] at hops; simp only [Kind.opds] at hops; simp only [AK.congr hops]
  | r k => exact Iff.rfl
  | h k => exact Iff.rfl
theorem Ready.of_t {y : IOp} {a a' : A} (e : a'.t = a.t) (r : Ready y a) : Ready y a' := by
  unfold Ready at r ⊢; rw [e]; exact r
theorem ready_of {call : CP} {y : IOp} {W : Reads} {a : A} {K : Reads → A → H → Prop} (hl : y.k.light = true) (hE : doE call y W a h K) : Ready y a := by
  unfold doE at hE
  refine ⟨hE.1, fun hw => ?_⟩
  have h2 := hE.2
  rw [if_pos hw] at h2
  cases hk : y.k with
  | p k =>
    simp only [hk, stepE] at h2
    simp only
    cases e : k.ev (Opd.ev a.t) with
    | none => rw [e] at h2; exact h2.elim
    | some v => rfl
  | a k =>
    simp only [hk, stepE] at h2
    simp only
    cases e : k.ev (Opd.ev a.t) with
    | none => rw [e] at h2; exact h2.elim
    | some v => rfl
  | r k => rw [hk] at hl; cases hl
  | h k => rw [hk] at hl; cases hl
theorem swap_lets {x y : IOp} (hs : x.lets y = true) {W : Reads} {a : A} {K : Reads → A → H → Prop} (hr : Ready y a)
    (hE : doE (Snd P) x W a h fun W1 a1 h1 => doE (Snd P) y W1 a1 h1 K) : doE (Snd P) y W a h fun W1 a1 h1 => doE (Snd P) x W1 a1 h1 K := by
  simp only [IOp.lets, Bool.and_eq_true] at hs
  obtain ⟨⟨hpc, hap⟩, hl⟩ := hs
  obtain ⟨hyx, hxy, hn⟩ := apart_spec hap
  have hn' : ∀ z, y.dst = some z → x.dst ≠ some z := fun z e e' => hn z e' e
  obtain ⟨g, as, hk⟩ := plainCall_inv hpc
  by_cases hw : wantedE a.t x.guard = true
  · rw [doE_call hw hk] at hE
    obtain ⟨gx, hS⟩ := hE
    by_cases hwy : wantedE a.t y.guard = true
    · have h2 := hr.2 hwy
      cases hky : y.k with
      | p k =>
        rw [hky] at h2
        simp only at h2
        obtain ⟨vy, e⟩ := Option.isSome_iff_exists.1 h2
        refine (doE_p hwy hky).2 ⟨hr.1, vy, e, ?_⟩
        rw [doE_put mono_snd hxy hn', doE_call hw hk]
        refine ⟨gx, Snd.mono (fun v h' q => ⟨q.1, ?_⟩) hS⟩
        have q2 := q.2
        rw [doE_put mono_snd hyx hn] at q2
        obtain ⟨_, v', e', q3⟩ := (doE_p hwy hky).1 q2
        rw [e] at e'; cases e'
        simp only at q3 ⊢
        rw [put_comm a.t hn]; exact q3
      | a k =>
        rw [hky] at h2
        simp only at h2
        obtain ⟨⟨x0, f⟩, e⟩ := Option.isSome_iff_exists.1 h2
        refine (doE_a hwy hky).2 ⟨hr.1, x0, f, e, fun b hb hB => ?_⟩
        rw [doE_put mono_snd hxy hn', doE_call hw hk]
        refine ⟨gx, Snd.mono (fun v h'' q => ?_) (snd_frame hS hb)⟩
        obtain ⟨h', hb', rfl, q1, q2⟩ := q
        refine ⟨fun z hz hz2 => z.2.1.2 _ _ _ _ hb' (q1 z hz hz2), ?_⟩
        rw [doE_put mono_snd hyx hn] at q2
        obtain ⟨_, x0', f', e', q3⟩ := (doE_a hwy hky).1 q2
        rw [e] at e'; cases e'
        have q4 := q3 b hb' hB
        simp only at q4 ⊢
        rw [put_comm a.t hn]; exact q4
      | r k => rw [hky] at hl; cases hl
      | h k => rw [hky] at hl; cases hl
    · refine (doE_un hwy).2 ⟨hr.1, ?_⟩
      rw [doE_put mono_snd hxy hn', doE_call hw hk]
      refine ⟨gx, Snd.mono (fun v h' q => ⟨q.1, ?_⟩) hS⟩
      have q2 := q.2
      rw [doE_put mono_snd hyx hn] at q2
      have q3 := ((doE_un hwy).1 q2).2
      simp only at q3 ⊢
      rw [put_comm a.t hn]; exact q3
  · obtain ⟨gx, h2⟩ := (doE_un hw).1 hE
    rw [doE_put mono_snd hyx hn] at h2
    refine doE_mono mono_snd (fun W1 a1 h1 q => ?_) (doE_with mono_snd h2)
    obtain ⟨⟨u, hu⟩, _, q⟩ := q
    obtain ⟨g1, g2⟩ := blind_guard hxy a.t u
    exact (doE_un (by rw [hu, g1]; exact hw)).2 ⟨by rw [hu]; exact g2.2 gx, q⟩
theorem doE_fin {x : IOp} {W : Reads} {a : A} {K : Reads → A → H → Prop} (hx : x.k.heavy = false ∨ x.k.plainCall = true) (hf : Fin h) (hE : doE (Snd P) x W a h K) :
    doE (Snd P) x W a h fun W1 a1 h1 => (∃ u, a1.t = put a.t x.dst u) ∧ Fin h1 ∧ K W1 a1 h1 := by
  rcases hx with hx | hx
  · exact doE_mono mono_snd (fun W1 a1 h1 q => ⟨q.1, q.2.1 hx hf, q.2.2⟩) (doE_with mono_snd hE)
  · obtain ⟨g, as, hk⟩ := plainCall_inv hx
    by_cases hw : wantedE a.t x.guard = true
    · rw [doE_call hw hk] at hE ⊢
      exact ⟨hE.1, Snd.mono (fun v h' q => ⟨q.2.1, ⟨v, rfl⟩, q.1, q.2.2⟩) (snd_fin hE.2)⟩
    · obtain ⟨g, q⟩ := (doE_un hw).1 hE
      exact (doE_un hw).2 ⟨g, ⟨_, rfl⟩, hf, q⟩
theorem lets_apart {x y : IOp} (h : x.swaps y = true ∨ x.lets y = true) : y.blind x.dst := by
  rcases h with h | h
  · simp only [IOp.swaps, Bool.and_eq_true] at h; exact (apart_spec h.1.2).1
  · simp only [IOp.lets, Bool.and_eq_true] at h; exact (apart_spec h.1.2).1
theorem lets_fin {x y : IOp} (h : x.swaps y = true ∨ x.lets y = true) : x.k.heavy = false ∨ x.k.plainCall = true := by
  rcases h with h | h
  · simp only [IOp.swaps, Bool.and_eq_true, Bool.not_eq_true'] at h; exact .inl h.1.1
  · simp only [IOp.lets, Bool.and_eq_true] at h; exact .inr h.1.1
/-- Told first. -/
theorem front2 {y : IOp} {post : List IOp} {K : A → H → Prop} : ∀ (pre : List IOp) {W : Reads} {a : A} {h : H}, (∀ x ∈ pre, x.swaps y = true ∨ x.lets y = true) → Fin h → Ready y a → drawE (Snd P) (pre ++ y :: post) W a h K →
    doE (Snd P) y W a h fun W' a' h' => drawE (Snd P) (pre ++ post) W' a' h' K
  | [], W, a, h, _, _, _, hE => by rw [List.nil_append, drawE_cons] at hE; exact hE
  | x :: pre, W, a, h, hs, hf, hr, hE => by
    rw [List.cons_append, drawE_cons] at hE
    have hx := hs x (by simp)
    have h2 : doE (Snd P) x W a h fun W1 a1 h1 => doE (Snd P) y W1 a1 h1 fun W2 a2 h2 => drawE (Snd P) (pre ++ post) W2 a2 h2 K :=
      doE_mono mono_snd (fun W1 a1 h1 q => by
        obtain ⟨⟨u, hu⟩, hf1, q⟩ := q
        exact front2 pre (fun z hz => hs z (by simp [hz])) hf1 (Ready.of_t (a := { a with t := put a.t x.dst u }) hu ((Ready.put (lets_apart hx)).2 hr)) q) (doE_fin (lets_fin hx) hf hE)
    have h3 : doE (Snd P) y W a h fun W1 a1 h1 => doE (Snd P) x W1 a1 h1 fun W2 a2 h2 => drawE (Snd P) (pre ++ post) W2 a2 h2 K := by
      rcases hx with hx | hx
      · exact swap mono_snd hx hf (fun W W' a h hs => drawE_anti mono_snd hs fun _ _ => id) h2
      · exact swap_lets hx hr h2
    exact doE_mono mono_snd (fun W1 a1 h1 q => by rw [List.cons_append, drawE_cons]; exact q) h3
end Mir

/- The mirror, part 19: regions, on the machine. -/
set_option linter.unusedSimpArgs false
set_option linter.unusedVariables false
namespace Mir
open Go
variable {P : Program} {μ μ' : Mu} {h h' : H} {w w' : World} {n base : Nat} {b : Frame} {act : Act} {k : List Item} {cs : List Frame} {ops : Array Oper} {i : Nat} {rest : List Nat} {o : Oper}

theorem snd_mono : Mono (Snd P) := fun c args h Q Q' hq a => Snd.mono hq a
theorem R.Fin (r : R P μ h w) : Fin h := by
  obtain ⟨N, hN⟩ := r.fin
  refine ⟨N, fun b hb => ?_⟩
  cases e : h b with
  | none => rfl
  | some o => obtain ⟨L, _, e', _⟩ := r.at_ b o e; rw [hN b hb] at e'; cases e'

/-- An operation of the mirror stands for one of the region's. -/
def Fit (P : Program) (n : Nat) (ops : Array Oper) (i : Nat) (io : IOp) : Prop :=
  ∃ o, ops[i]? = some o ∧ io.dst = o.dst ∧ cDst n o.dst = true ∧ cGuard n ops o.guard = some io.guard ∧ (cOp P n o.op = some io.k ∨ io.k = stuckK)
theorem cOper_fit {io : IOp} (ho : ops[i]? = some o) (hc : cOper P n ops o = some io) : Fit P n ops i io := by
  unfold cOper at hc
  split at hc
  · rename_i g hg
    split at hc
    · rename_i hd
      cases hc
      refine ⟨o, ho, rfl, hd, hg, ?_⟩
      cases hk : cOp P n o.op with
      | none => exact .inr rfl
      | some k => exact .inl rfl
    · cases hc
  · cases hc

theorem not_dfr {l : List IOp} (hd : hasDfr l = false) : ∀ io ∈ l, ∀ f a, io.k ≠ .h (.dfr f a) := by
  induction l with
  | nil => simp
  | cons o l ih =>
    simp only [hasDfr, Bool.or_eq_false_iff] at hd
    intro io hio f a e
    rcases List.mem_cons.1 hio with rfl | hio
    · have := hd.1; rw [e] at this; cases this
    · exact ih hd.2 io hio f a e

/-- One operation with its guard, unwanted. -/
theorem step_un {io : IOp} {a : A} (hf : Fit P n ops i io) (s : SR P n base μ a h act w) (hg : guardOk a.t io.guard) (hw : ¬ wantedE a.t io.guard = true) :
    ∃ act', Steps P (lone (b.atR act (.inRegion ops (i :: rest) :: k)) cs w) (lone (b.atR act' (.inRegion ops rest :: k)) cs w) ∧ SR P n base μ { a with t := put a.t io.dst (.tup []) } h act' w := by
  obtain ⟨o, ho, hd, hdn, hgu, hc⟩ := hf
  have hwd := guard_sound s hgu hg
  refine ⟨act.put o.dst Go.undef, .one ?_, by rw [hd]; exact s.put hdn vr_undef⟩
  have := stepR_op_skip (P := P) (b := b) (a := act) (k := k) (cs := cs) (w := w) (ops := ops) (i := i) (rest := rest) (by
    simp only [ho, Option.map_some, Option.getD_some, hwd]
    simpa using hw)
  rw [ho] at this
  exact this
theorem step_wanted {io : IOp} {a : A} {K : V → A → H → Prop} (hf : Fit P n ops i io) (s : SR P n base μ a h act w) (hg : guardOk a.t io.guard) (hw : wantedE a.t io.guard = true)
    (hnd : b.roundOf ≠ none → ∀ f a, io.k ≠ .h (.dfr f a)) (hE : stepE (Snd P) io a h K) :
    ∃ v a' h' act' μ' w', K v a' h' ∧ Steps P (lone (b.atR act (.inRegion ops (i :: rest) :: k)) cs w) (lone (b.atR act' (.inRegion ops rest :: k)) cs w') ∧ St P μ h w μ' h' w' ∧ SR P n base μ' a' h' act' w' := by
  obtain ⟨o, ho, hd, hdn, hgu, hc⟩ := hf
  have hwd := guard_sound s hgu hg
  rcases hc with hc | hc
  · exact step_op ho (hwd.trans hw) hd hdn hc hnd s hE
  · exfalso
    unfold stepE at hE
    rw [hc] at hE
    exact hE
theorem step_do {io : IOp} {W : Reads} {a : A} {K : Reads → A → H → Prop} (hf : Fit P n ops i io) (s : SR P n base μ a h act w)
    (hnd : b.roundOf ≠ none → ∀ f a, io.k ≠ .h (.dfr f a)) (hE : doE (Snd P) io W a h K) :
    ∃ W' a' h' act' μ' w', K W' a' h' ∧ Steps P (lone (b.atR act (.inRegion ops (i :: rest) :: k)) cs w) (lone (b.atR act' (.inRegion ops rest :: k)) cs w') ∧ St P μ h w μ' h' w' ∧ SR P n base μ' a' h' act' w' := by
  by_cases hw : wantedE a.t io.guard = true
  · unfold doE at hE
    obtain ⟨hg, h2⟩ := hE
    rw [if_pos hw] at h2
    split at h2
    · obtain ⟨v, a', h', act', μ', w', hK, r⟩ := step_wanted hf s hg hw hnd h2
      exact ⟨_, a', h', act', μ', w', hK, r⟩
    · obtain ⟨v, a', h', act', μ', w', hK, r⟩ := step_wanted hf s hg hw hnd h2
      exact ⟨_, a', h', act', μ', w', hK.2, r⟩
    · obtain ⟨v, a', h', act', μ', w', hK, r⟩ := step_wanted hf s hg hw hnd h2
      exact ⟨_, a', h', act', μ', w', hK, r⟩
  · obtain ⟨hg, h2⟩ := (doE_un hw).1 hE
    obtain ⟨act', hs, hr⟩ := step_un (b := b) (k := k) (cs := cs) (rest := rest) hf s hg hw
    exact ⟨_, _, _, act', μ, w, h2, hs, St.refl s.rel, hr⟩

/-! ### In order -/
theorem ops_steps : ∀ (l : List IOp) (is : List Nat) {a : A} {h : H} {act : Act} {μ : Mu} {w : World} {K : A → H → Prop}, All2 (Fit P n ops) is l → (b.roundOf ≠ none → ∀ io ∈ l, ∀ f a, io.k ≠ .h (.dfr f a)) → SR P n base μ a h act w → opsE (Snd P) l a h K →
    ∃ a' h' act' μ' w', K a' h' ∧ Steps P (lone (b.atR act (.inRegion ops is :: k)) cs w) (lone (b.atR act' k) cs w') ∧ St P μ h w μ' h' w' ∧ SR P n base μ' a' h' act' w'
  | [], is, a, h, act, μ, w, K, hf, _, s, hE => by
    cases hf
    exact ⟨a, h, act, μ, w, hE, .one stepR_region_end, St.refl s.rel, s⟩
  | io :: l, is, a, h, act, μ, w, K, hf, hnd, s, hE => by
    cases hf with
    | cons hf1 hf2 =>
      simp only [opsE] at hE
      obtain ⟨hg, h2⟩ := hE
      by_cases hw : wantedE a.t io.guard = true
      · rw [if_pos hw] at h2
        obtain ⟨v, a', h', act', μ', w', hK, hs, hst, hr⟩ := step_wanted (b := b) (k := k) (cs := cs) hf1 s hg hw (fun hb => hnd hb io (by simp)) h2
        obtain ⟨a2, h2, act2, μ2, w2, hK2, hs2, hst2, hr2⟩ := ops_steps l _ hf2 (fun hb x hx => hnd hb x (by simp [hx])) hr hK
        exact ⟨a2, h2, act2, μ2, w2, hK2, Steps.trans hs hs2, hst.trans hst2, hr2⟩
      · rw [if_neg hw] at h2
        obtain ⟨act', hs, hr⟩ := step_un (b := b) (k := k) (cs := cs) hf1 s hg hw
        obtain ⟨a2, h2, act2, μ2, w2, hK2, hs2, hst2, hr2⟩ := ops_steps l _ hf2 (fun hb x hx => hnd hb x (by simp [hx])) hr h2
        exact ⟨a2, h2, act2, μ2, w2, hK2, Steps.trans hs hs2, hst2, hr2⟩

/-! ### In any order -/
/-- Each operation's mask tells what its edges tell, through and through. -/
def MaskOk (ops : Array Oper) (M : List Nat) : Prop :=
  ∀ i o, ops[i]? = some o → ∀ j, ordered M j i = true → ∃ e ∈ o.after, Region.binds .any e = true ∧ (j = e.on ∨ ordered M j e.on = true)
def EdgesOk (ops : Array Oper) : Prop := ∀ i o, ops[i]? = some o → ∀ e ∈ o.after, Region.binds .any e = true → e.on < i
def Down (ops : Array Oper) (listed : Array Bool) : Prop :=
  listed.size = ops.size ∧ ∀ i o, ops[i]? = some o → listed.getD i false = true → ∀ e ∈ o.after, Region.binds .any e = true → listed.getD e.on false = true
structure Told (P : Program) (n : Nat) (ops : Array Oper) (M : List Nat) (listed : Array Bool) (told : List IOp) : Prop where
  nodup : (told.map (·.id)).Nodup
  fit : ∀ io ∈ told, io.id < ops.size ∧ listed.getD io.id true = false ∧ Fit P n ops io.id io
  all : ∀ i, i < ops.size → listed.getD i true = false → ∃ io ∈ told, io.id = i
  pairs : told.Pairwise fun x y => ordered M x.id y.id = true ∨ x.swaps y = true ∨ x.lets y = true

theorem listed_down {M : List Nat} {listed : Array Bool} (hM : MaskOk ops M) (hE : EdgesOk ops) (hD : Down ops listed) : ∀ (i : Nat) (j : Nat), listed.getD i false = true → ordered M j i = true → listed.getD j false = true := by
  intro i
  induction i using Nat.strongRecOn with
  | _ i ih =>
    intro j hi hj
    have hlt : i < ops.size := by
      rcases Nat.lt_or_ge i ops.size with h | h
      · exact h
      · rw [← hD.1] at h; simp [Array.getElem?_eq_none h] at hi
    have ho : ops[i]? = some ops[i] := Array.getElem?_eq_getElem hlt
    obtain ⟨e, he, hb, hje⟩ := hM i _ ho j hj
    have hon := hD.2 i _ ho hi e he hb
    rcases hje with rfl | hje
    · exact hon
    · exact ih e.on (hE i _ ho e he hb) j hon hje
theorem ready_down {M : List Nat} {listed : Array Bool} (hM : MaskOk ops M) (hE : EdgesOk ops) (hD : Down ops listed) {i j : Nat} (hr : i ∈ Region.ready .any ops listed) (hj : ordered M j i = true) : listed.getD j false = true := by
  obtain ⟨_, o, ho, hall⟩ := mem_ready.1 hr
  obtain ⟨e, he, hb, hje⟩ := hM i _ ho j hj
  have hon := hall e he hb
  rcases hje with rfl | hje
  · exact hon
  · exact listed_down hM hE hD _ _ hon hje
theorem getD_tf {listed : Array Bool} {i : Nat} (h : i < listed.size) : listed.getD i true = listed.getD i false := by simp [h]
theorem some_ready {listed : Array Bool} (hE : EdgesOk ops) (hD : Down ops listed) : ∀ i, i < ops.size → listed.getD i true = false → Region.ready .any ops listed ≠ [] := by
  intro i
  induction i using Nat.strongRecOn with
  | _ i ih =>
    intro hi hu
    have ho : ops[i]? = some ops[i] := Array.getElem?_eq_getElem hi
    by_cases hall : ∀ e ∈ (ops[i]).after, Region.binds .any e = true → listed.getD e.on false = true
    · intro hnil
      have : i ∈ Region.ready .any ops listed := mem_ready.2 ⟨hu, _, ho, hall⟩
      rw [hnil] at this; cases this
    · simp only [Classical.not_forall] at hall
      obtain ⟨e, he, hb, hne⟩ := hall
      have hlt := hE i _ ho e he hb
      refine ih e.on hlt (by omega) ?_
      rw [getD_tf (by rw [hD.1]; omega)]
      simpa using hne
theorem Told.nil_of {M : List Nat} {listed : Array Bool} {told : List IOp} (hT : Told P n ops M listed told) (hE : EdgesOk ops) (hD : Down ops listed) (hr : Region.ready .any ops listed = []) : told = [] := by
  cases told with
  | nil => rfl
  | cons io l =>
    obtain ⟨h1, h2, _⟩ := hT.fit io (by simp)
    exact absurd hr (some_ready hE hD _ h1 h2)

/-- What the run tells of an operation that may come first: it is ready. -/
theorem ready_run {y : IOp} {post : List IOp} {K : A → H → Prop} (hl : y.k.light = true) : ∀ (pre : List IOp) {W : Reads} {a : A} {h : H} {act : Act} {μ : Mu} {w : World}, (∀ x ∈ pre, x.swaps y = true ∨ x.lets y = true) → (∀ x ∈ pre, Fit P n ops x.id x) →
    (b.roundOf ≠ none → ∀ x ∈ pre, ∀ f a, x.k ≠ .h (.dfr f a)) → SR P n base μ a h act w → drawE (Snd P) (pre ++ y :: post) W a h K → Ready y a
  | [], W, a, h, act, μ, w, _, _, _, _, hE => by rw [List.nil_append, drawE_cons] at hE; exact ready_of hl hE
  | x :: pre, W, a, h, act, μ, w, hs, hF, hnd, s, hE => by
    rw [List.cons_append, drawE_cons] at hE
    obtain ⟨W', a', h', act', μ', w', ⟨⟨u, hu⟩, _, hK⟩, _, _, hr⟩ := step_do (b := b) (k := []) (cs := []) (rest := []) (hF x (by simp)) s (fun hb => hnd hb x (by simp)) (doE_with snd_mono hE)
    have h1 := ready_run hl pre (fun z hz => hs z (by simp [hz])) (fun z hz => hF z (by simp [hz])) (fun hb z hz => hnd hb z (by simp [hz])) hr hK
    exact (Ready.put (lets_apart (hs x (by simp)))).1 (Ready.of_t (a := a') (a' := { a with t := put a.t x.dst u }) hu.symm h1)
theorem draw_steps {M : List Nat} (hM : MaskOk ops M) (hE : EdgesOk ops) {K : A → H → Prop} : ∀ (fuel t : Nat) (listed : Array Bool) (told : List IOp) {W : Reads} {a : A} {h : H} {act : Act} {μ : Mu} {w : World}, told.length ≤ fuel → Told P n ops M listed told → Down ops listed →
    (b.roundOf ≠ none → ∀ io ∈ told, ∀ f a, io.k ≠ .h (.dfr f a)) → SR P n base μ a h act w → drawE (Snd P) told W a h K →
    ∃ a' h' act' μ' w', K a' h' ∧ Steps P (lone (b.atR act (.inRegion ops (Region.linearise.go .any ops fuel t listed []) :: k)) cs w) (lone (b.atR act' k) cs w') ∧ St P μ h w μ' h' w' ∧ SR P n base μ' a' h' act' w' := by
  intro fuel
  induction fuel with
  | zero =>
    intro t listed told W a h act μ w hl hT hD hnd s hd
    have : told = [] := List.length_eq_zero_iff.1 (by omega)
    subst this
    exact ⟨a, h, act, μ, w, hd, .one (by simp only [Region.linearise.go, List.reverse_nil]; exact stepR_region_end), St.refl s.rel, s⟩
  | succ fuel ih =>
    intro t listed told W a h act μ w hl hT hD hnd s hd
    have hgo : Region.linearise.go .any ops (fuel + 1) t listed [] = match (Region.ready .any ops listed)[t % (Region.ready .any ops listed).length]? with
      | some i => Region.linearise.go .any ops fuel (t / (Region.ready .any ops listed).length) (listed.setIfInBounds i true) [i]
      | none => [].reverse := rfl
    cases hi : (Region.ready .any ops listed)[t % (Region.ready .any ops listed).length]? with
    | none =>
      have hnil : Region.ready .any ops listed = [] := by
        cases hr : Region.ready .any ops listed with
        | nil => rfl
        | cons x xs =>
          rw [hr] at hi
          have hlt : t % (x :: xs).length < (x :: xs).length := Nat.mod_lt _ (by simp)
          simp at hi
          simp at hlt
          omega
      have := hT.nil_of hE hD hnil
      subst this
      refine ⟨a, h, act, μ, w, hd, .one ?_, St.refl s.rel, s⟩
      rw [hgo, hi]
      exact stepR_region_end
    | some i =>
      have hir : i ∈ Region.ready .any ops listed := List.mem_of_getElem? hi
      obtain ⟨hun, o, ho, hall⟩ := mem_ready.1 hir
      have hlt : i < ops.size := (Array.getElem?_eq_some_iff.1 ho).1
      obtain ⟨io, hio, hid⟩ := hT.all i hlt hun
      obtain ⟨pre, post, rfl⟩ := List.append_of_mem hio
      have hpw := List.pairwise_append.1 hT.pairs
      have hsw : ∀ x ∈ pre, x.swaps io = true ∨ x.lets io = true := fun x hx => by
        rcases hpw.2.2 x hx io (by simp) with h | h
        · rw [hid] at h
          have h1 := ready_down hM hE hD hir h
          obtain ⟨h2, h3, _⟩ := hT.fit x (by simp [hx])
          rw [getD_tf (by rw [hD.1]; exact h2), h1] at h3
          cases h3
        · exact h
      have hfr : doE (Snd P) io W a h fun W' a' h' => drawE (Snd P) (pre ++ post) W' a' h' K := by
        by_cases hli : io.k.light = true
        · exact front2 pre hsw s.rel.Fin (ready_run (b := b) hli pre hsw (fun x hx => (hT.fit x (by simp [hx])).2.2) (fun hb x hx => hnd hb x (by simp [hx])) s hd) hd
        · exact front snd_mono pre (fun x hx => (hsw x hx).resolve_right fun e => hli (by simp only [IOp.lets, Bool.and_eq_true] at e; exact e.2)) s.rel.Fin hd
      obtain ⟨_, _, hfit⟩ := hT.fit io (by simp)
      rw [hid] at hfit
      obtain ⟨W', a', h', act', μ', w', hK, hs, hst, hr⟩ := step_do (b := b) (k := k) (cs := cs) (rest := Region.linearise.go .any ops fuel (t / (Region.ready .any ops listed).length) (listed.setIfInBounds i true) []) hfit s (fun hb => hnd hb io (by simp)) hfr
      have hnd' := hT.nodup
      rw [List.map_append, List.map_cons] at hnd'
      have hT' : Told P n ops M (listed.setIfInBounds i true) (pre ++ post) := by
        have hsub : (pre ++ post).Sublist (pre ++ io :: post) := List.Sublist.append_left (List.sublist_cons_self _ _) _
        have hne : ∀ x ∈ pre ++ post, x.id ≠ i := by
          have h1 := (List.nodup_append.1 hnd')
          intro x hx e
          rw [← hid] at e
          rcases List.mem_append.1 hx with hx | hx
          · exact h1.2.2 _ (List.mem_map.2 ⟨x, hx, rfl⟩) _ (List.mem_cons_self ..) e
          · exact (List.nodup_cons.1 h1.2.1).1 (e ▸ List.mem_map.2 ⟨x, hx, rfl⟩)
        refine ⟨(hsub.map _).nodup hT.nodup, fun x hx => ?_, fun j hj hu => ?_, hT.pairs.sublist hsub⟩
        · obtain ⟨h1, h2, h3⟩ := hT.fit x (hsub.subset hx)
          exact ⟨h1, by rw [getD_set_ne true (Ne.symm (hne x hx))]; exact h2, h3⟩
        · have hji : i ≠ j := fun e => by
            subst e
            have : i < listed.size := by rw [hD.1]; exact hj
            simp [this] at hu
          rw [getD_set_ne true hji] at hu
          obtain ⟨x, hx, hxj⟩ := hT.all j hj hu
          rcases List.mem_append.1 hx with hx | hx
          · exact ⟨x, List.mem_append_left _ hx, hxj⟩
          · rcases List.mem_cons.1 hx with rfl | hx
            · exact absurd (hid.symm.trans hxj) hji
            · exact ⟨x, List.mem_append_right _ hx, hxj⟩
      have hD' : Down ops (listed.setIfInBounds i true) := by
        refine ⟨by simp [hD.1], fun j oj hoj hl e he hb => getD_set_true ?_⟩
        by_cases hji : i = j
        · subst hji
          rw [ho] at hoj; cases hoj
          exact hall e he hb
        · rw [getD_set_ne false hji] at hl
          exact hD.2 j oj hoj hl e he hb
      obtain ⟨a2, h2, act2, μ2, w2, hK2, hs2, hst2, hr2⟩ := ih (t / (Region.ready .any ops listed).length) (listed.setIfInBounds i true) (pre ++ post) (by simp at hl ⊢; omega) hT' hD' (fun hb x hx => hnd hb x (by
        rcases List.mem_append.1 hx with hx | hx
        · exact List.mem_append_left _ hx
        · exact List.mem_append_right _ (List.mem_cons_of_mem _ hx))) hr hK
      refine ⟨a2, h2, act2, μ2, w2, hK2, ?_, hst.trans hst2, hr2⟩
      rw [hgo, hi]
      simp only
      rw [linearise_go_acc, List.reverse_singleton, List.singleton_append]
      exact Steps.trans hs hs2
end Mir

/- The mirror, part 20: what has been checked of a region. -/
set_option linter.unusedSimpArgs false
set_option linter.unusedVariables false
namespace Mir
open Go
variable {P : Program} {n : Nat} {ops : Array Oper}

theorem cOpers_spec : ∀ {os : List Oper} {l : List IOp}, cOpers P n ops os = some l → All2 (fun o io => cOper P n ops o = some io) os l
  | [], l, hc => by simp only [cOpers] at hc; cases hc; exact .nil
  | o :: os, l, hc => by
    simp only [cOpers] at hc
    split at hc
    · rename_i h1 h2; cases hc; exact .cons h1 (cOpers_spec h2)
    · cases hc
theorem All2.getR' {α β : Type} {R : α → β → Prop} {as : List α} {bs : List β} (h : All2 R as bs) : ∀ {i : Nat} {b : β}, bs[i]? = some b → ∃ a, as[i]? = some a ∧ R a b := by
  induction h with
  | nil => intro i b h; simp at h
  | cons h _ ih =>
    intro i b hi
    cases i with
    | zero => simp at hi; subst hi; exact ⟨_, by simp, h⟩
    | succ i => simp at hi; obtain ⟨a, ha, hr⟩ := ih hi; exact ⟨a, by simpa using ha, hr⟩
theorem ops_fit {l : List IOp} (hc : cOpers P n ops ops.toList = some l) : All2 (Fit P n ops) (List.range ops.size) l := by
  have h := cOpers_spec hc
  refine All2.of_get (by rw [← h.len]; simp) fun i j io hj hio => ?_
  obtain ⟨o, ho, hco⟩ := h.getR' hio
  have hlt : i < (List.range ops.size).length := (List.getElem?_eq_some_iff.1 hj).1
  rw [List.length_range] at hlt
  rw [List.getElem?_range hlt] at hj
  cases hj
  exact cOper_fit (by rw [← Array.getElem?_toList]; exact ho) hco

theorem numbered_spec : ∀ (l : List IOp) (s i : Nat), (numbered l s)[i]? = (l[i]?).map fun o => { o with id := s + i }
  | [], s, i => by simp [numbered]
  | o :: l, s, i => by
    cases i with
    | zero => simp [numbered]
    | succ i => simp [numbered, numbered_spec l (s + 1) i]; congr 1; funext o; congr 1; omega
theorem watched_same (M : List Nat) (l : List IOp) (o : IOp) : (watched M l o).dst = o.dst ∧ (watched M l o).guard = o.guard ∧ (watched M l o).k = o.k ∧ (watched M l o).id = o.id := by
  unfold watched; split <;> exact ⟨rfl, rfl, rfl, rfl⟩
theorem nodup_spec : ∀ {l : List Nat}, nodup l = true → l.Nodup
  | [], _ => List.nodup_nil
  | x :: l, h => by
    simp only [nodup, Bool.and_eq_true, Bool.not_eq_true'] at h
    exact List.nodup_cons.2 ⟨by simpa using h.1, nodup_spec h.2⟩
theorem pairs_spec {M : List Nat} : ∀ {l : List IOp}, pairsOk M l = true → l.Pairwise fun x y => ordered M x.id y.id = true ∨ x.swaps y = true ∨ x.lets y = true
  | [], _ => .nil
  | x :: l, h => by
    simp only [pairsOk, Bool.and_eq_true, List.all_eq_true, Bool.or_eq_true] at h
    exact .cons (fun y hy => (h.1 y hy).2) (pairs_spec h.2)
theorem edges_spec : ∀ {os : List Oper} {s : Nat}, edgesOk os s = true → ∀ (i : Nat) o, os[i]? = some o → ∀ e ∈ o.after, Region.binds .any e = true → e.on < s + i
  | [], s, _, i, o, ho => by simp at ho
  | x :: os, s, h, i, o, ho => by
    simp only [edgesOk, Bool.and_eq_true, List.all_eq_true, Bool.or_eq_true, Bool.not_eq_true', decide_eq_true_eq] at h
    intro e he hb
    cases i with
    | zero =>
      simp at ho; subst ho
      rcases h.1 e (by simpa using he) with h | h
      · rw [hb] at h; cases h
      · omega
    | succ i =>
      have := edges_spec h.2 i o (by simpa using ho) e he hb
      omega

theorem fold_bit (M : List Nat) (j : Nat) : ∀ (l : List Edge) (s : Nat), (l.foldl (fun s e => if Region.binds .any e then s ||| 2 ^ e.on ||| M.getD e.on 0 else s) s).testBit j = true →
    s.testBit j = true ∨ ∃ e ∈ l, Region.binds .any e = true ∧ (j = e.on ∨ (M.getD e.on 0).testBit j = true)
  | [], s, h => .inl h
  | e :: l, s, h => by
    rw [List.foldl_cons] at h
    rcases fold_bit M j l _ h with h | ⟨e', he', r⟩
    · by_cases hb : Region.binds .any e = true
      · rw [if_pos hb, Nat.testBit_or, Nat.testBit_or, Bool.or_eq_true, Bool.or_eq_true, Nat.testBit_two_pow, decide_eq_true_eq] at h
        rcases h with (h | h) | h
        · exact .inl h
        · exact .inr ⟨e, by simp, hb, .inl h.symm⟩
        · exact .inr ⟨e, by simp, hb, .inr h⟩
      · rw [if_neg hb] at h; exact .inl h
    · exact .inr ⟨e', List.mem_cons_of_mem _ he', r⟩
theorem masks_pre : ∀ (os : List Oper) (M : List Nat), ∃ N, masks os M = M ++ N
  | [], M => ⟨[], by simp [masks]⟩
  | o :: os, M => by
    obtain ⟨N, h⟩ := masks_pre os (M ++ [maskOf M o])
    exact ⟨maskOf M o :: N, by rw [masks, h, List.append_assoc]; rfl⟩
theorem masks_spec : ∀ (os : List Oper) (M : List Nat) (i : Nat) o, os[i]? = some o → ∃ N, (masks os M).getD (M.length + i) 0 = maskOf ((masks os M).take N) o
  | [], M, i, o, ho => by simp at ho
  | x :: os, M, i, o, ho => by
    cases i with
    | zero =>
      simp at ho; subst ho
      obtain ⟨N, h⟩ := masks_pre os (M ++ [maskOf M x])
      refine ⟨M.length, ?_⟩
      rw [masks, h]
      simp [List.getD_eq_getElem?_getD, List.append_assoc]
    | succ i =>
      obtain ⟨N, h⟩ := masks_spec os (M ++ [maskOf M x]) i o (by simpa using ho)
      refine ⟨N, ?_⟩
      rw [masks, ← h, List.length_append, List.length_singleton]
      congr 1; omega
theorem take_bit {M : List Nat} {N x j : Nat} (h : ((M.take N).getD x 0).testBit j = true) : (M.getD x 0).testBit j = true := by
  rw [List.getD_eq_getElem?_getD] at h ⊢
  rw [List.getElem?_take] at h
  split at h
  · exact h
  · simp at h
theorem mask_ok : MaskOk ops (masks ops.toList []) := by
  intro i o ho j hj
  obtain ⟨N, hN⟩ := masks_spec ops.toList [] i o (by rw [Array.getElem?_toList]; exact ho)
  simp only [List.length_nil, Nat.zero_add] at hN
  unfold ordered at hj
  rw [hN] at hj
  rcases fold_bit _ j _ _ hj with h | ⟨e, he, hb, hje⟩
  · simp at h
  · refine ⟨e, by simpa using he, hb, ?_⟩
    rcases hje with h | h
    · exact .inl h
    · exact .inr (take_bit h)

theorem told_map (l : List IOp) (hl : ∀ (i : Nat) io, l[i]? = some io → io.id = i) : ∀ (order : List Nat), (∀ i ∈ order, i < l.length) → (order.filterMap fun i => l[i]?).map (·.id) = order
  | [], _ => rfl
  | x :: order, h => by
    have hx : x < l.length := h x (by simp)
    rw [List.filterMap_cons, List.getElem?_eq_getElem hx]
    simp only [List.map_cons]
    rw [told_map l hl order fun i hi => h i (by simp [hi]), hl x _ (List.getElem?_eq_getElem hx)]

theorem cDraw_spec {told : List IOp} (hc : cDraw P n ops = some told) :
    EdgesOk ops ∧ MaskOk ops (masks ops.toList []) ∧ Told P n ops (masks ops.toList []) (Array.replicate ops.size false) told ∧ told.length ≤ ops.size := by
  unfold cDraw at hc
  split at hc
  · cases hc
  · rename_i l0 hl0
    simp only at hc
    split at hc
    · rename_i hchk
      simp only [Bool.and_eq_true, List.all_eq_true, decide_eq_true_eq] at hchk
      obtain ⟨⟨⟨⟨⟨hE, hn⟩, hall⟩, hle⟩, hlt⟩, hp⟩ := hchk
      have hfit := ops_fit hl0
      generalize hl : (numbered l0 0).map (watched (masks ops.toList []) (numbered l0 0)) = l at hc hall hle hlt hp hn
      have hspec : ∀ (i : Nat) io, l[i]? = some io → io.id = i ∧ Fit P n ops i io := by
        intro i io hi
        rw [← hl, List.getElem?_map, numbered_spec] at hi
        obtain ⟨io1, h1, rfl⟩ := Option.map_eq_some_iff.1 hi
        obtain ⟨io0, h0, rfl⟩ := Option.map_eq_some_iff.1 h1
        obtain ⟨q1, q2, q3, q4⟩ := watched_same (masks ops.toList []) (numbered l0 0) { io0 with id := 0 + i }
        refine ⟨by rw [q4]; simp, ?_⟩
        obtain ⟨j, hj, hf⟩ := hfit.getR' h0
        have hji : j = i := by
          have hlt : i < (List.range ops.size).length := (List.getElem?_eq_some_iff.1 hj).1
          rw [List.length_range] at hlt
          rw [List.getElem?_range hlt] at hj
          exact (Option.some.inj hj).symm
        subst hji
        obtain ⟨o, r1, r2, r3, r4, r5⟩ := hf
        exact ⟨o, r1, q1.trans r2, r3, r4.trans (by rw [q2]), by rw [q3]; exact r5⟩
      have hlen : l.length = ops.size := by
        have h1 := hfit.len
        rw [List.length_range] at h1
        have h2 : ∀ (l : List IOp) s, (numbered l s).length = l.length := by
          intro l; induction l with
          | nil => intro s; rfl
          | cons o l ih => intro s; simp [numbered, ih]
        rw [← hl, List.length_map, h2, ← h1]
      generalize plan (masks ops.toList []) l (l.filter (·.k.heavy)) [] = order at hc hall hle hlt hp hn
      have hmap := told_map l (fun i io h => (hspec i io h).1) order hlt
      cases hc
      have hmem : ∀ io ∈ order.filterMap (fun i => l[i]?), ∃ i, i < l.length ∧ l[i]? = some io := fun io hio => by
        obtain ⟨i, _, hi⟩ := List.mem_filterMap.1 hio
        exact ⟨i, (List.getElem?_eq_some_iff.1 hi).1, hi⟩
      refine ⟨fun i o ho e he hb => by have := edges_spec hE i o (by rw [Array.getElem?_toList]; exact ho) e he hb; omega, mask_ok, ⟨?_, fun io hio => ?_, fun i hi _ => ?_, pairs_spec hp⟩, ?_⟩
      · rw [hmap]; exact nodup_spec hn
      · obtain ⟨i, hi, hio⟩ := hmem io hio
        obtain ⟨r1, r2⟩ := hspec i io hio
        rw [r1]
        have : i < ops.size := by omega
        exact ⟨this, by simp [this], r2⟩
      · have hi' : i < l.length := by omega
        have hin := hall i (by simpa using hi')
        have hin' : i ∈ order := by simpa using hin
        refine ⟨l[i], List.mem_filterMap.2 ⟨i, hin', List.getElem?_eq_getElem hi'⟩, (hspec i _ (List.getElem?_eq_getElem hi')).1⟩
      · have h1 : (order.filterMap fun i => l[i]?).length = order.length := by rw [← List.length_map (f := fun o : IOp => o.id), hmap]
        rw [h1]
        omega
    · cases hc
end Mir
