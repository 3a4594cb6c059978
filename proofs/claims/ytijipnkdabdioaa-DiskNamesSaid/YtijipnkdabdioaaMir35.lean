/- The mirror, part 35: a call is told ahead of what is made beside it. -/
import Derived.Test.YtijipnkdabdioaaMir15
import Derived.Test.YtijipnkdabdioaaMir18
set_option linter.unusedSimpArgs false
set_option linter.unusedVariables false
namespace Mir
open Go
variable {P : Program} {μ μ' : Mu} {h h' : H} {w w' : World} {b : Nat} {o : AObj}
theorem R.isFin (r : R P μ h w) : Fin h := by
  obtain ⟨N, hN⟩ := r.fin
  refine ⟨N, fun b hb => ?_⟩
  cases e : h b with
  | none => rfl
  | some o => obtain ⟨L, _, e', _⟩ := r.at_ b o e; rw [hN b hb] at e'; cases e'
theorem sub_hadd (hb : h b = none) : Sub h (hadd h b o) := fun c x hc => hadd_some hb hc
/-- A piece of memory that is not looked at stays as it is. -/
theorem St.frame (hb : h b = none) (r : R P μ (hadd h b o) w) (st : St P μ h w μ' h' w') : h' b = none ∧ St P μ (hadd h b o) w μ' (hadd h' b o) w' := by
  obtain ⟨L, x, hL, hx, hor⟩ := r.at_ b o (by simp [hadd, hset])
  have hlt : L.B < w.heap.size := (Array.getElem?_eq_some_iff.1 hx).1
  have hno : ¬ Own μ h L.B := by
    rintro ⟨c, oc, Lc, hc, hro, hLc, e⟩
    have hne : c ≠ b := fun e => by subst e; rw [hb] at hc; cases hc
    exact r.inj c b oc o Lc L (hadd_some hb hc) (by simp [hadd, hset]) hne hLc hL hro e
  have hb' : h' b = none := by
    cases e : h' b with
    | none => rfl
    | some y =>
      rcases st.fresh b (by rw [e]; simp) with e1 | ⟨e1, _⟩
      · exact absurd hb e1
      · rw [hL] at e1; cases e1
  have hown : ∀ B, Own μ h B → Own μ (hadd h b o) B := fun B ⟨c, oc, Lc, hc, q⟩ => ⟨c, oc, Lc, hadd_some hb hc, q⟩
  have hLB : ∀ (c : Nat) (oc : AObj) (Lc : Loc), h' c = some oc → μ' c = some Lc → (o.ro = false ∨ oc.ro = false) → Lc.B ≠ L.B := by
    intro c oc Lc hc hLc hro e
    rcases st.fresh c (by rw [hc]; simp) with e1 | ⟨e1, e2⟩
    · cases e3 : h c with
      | none => exact e1 e3
      | some oc0 =>
        obtain ⟨L0, _, hL0, _⟩ := r.at_ c oc0 (hadd_some hb e3)
        have e4 := st.le c L0 hL0
        rw [hLc] at e4; cases e4
        have hne : b ≠ c := fun e => by subst e; rw [hb] at e3; cases e3
        rcases hro with hro | hro
        · exact r.inj b c o oc0 L Lc (by simp [hadd, hset]) (hadd_some hb e3) hne hL hL0 hro e.symm
        · rcases st.own Lc.B ⟨c, oc, Lc, hc, hro, hLc, rfl⟩ with e5 | e5
          · exact hno (e ▸ e5)
          · rw [e] at e5; omega
    · rcases e2 Lc hLc with e5 | e5
      · exact hno (e ▸ e5)
      · rw [e] at e5; omega
  refine ⟨hb', st.le, ⟨st.rel.fin, fun c y hc => ?_, fun c c' y y' K K' hc hc' hne hK hK' hro => ?_, st.rel.glob⟩, st.size, fun B hB hn => st.kept B hB fun q => hn (hown B q), fun B ⟨c, y, K, hc, hro, hK, e⟩ => ?_, fun c hc => ?_, st.os, st.tape, st.output⟩
  · by_cases e : c = b
    · subst e
      simp only [hadd, hset, if_true, Option.some.injEq] at hc
      subst hc
      exact ⟨L, x, st.le _ _ hL, by rw [st.kept _ hlt hno]; exact hx, hor.mono P st.le⟩
    · rw [hadd_ne e] at hc; exact st.rel.at_ c y hc
  · by_cases e : c = b
    · subst e
      rw [hadd_ne (Ne.symm hne)] at hc'
      simp only [hadd, hset, if_true, Option.some.injEq] at hc
      subst hc
      have := st.le _ _ hL
      rw [hK] at this; cases this
      exact (hLB c' y' K' hc' hK' (.inl hro)).symm
    · rw [hadd_ne e] at hc
      by_cases e' : c' = b
      · subst e'
        have := st.le _ _ hL
        rw [hK'] at this; cases this
        exact hLB c y K hc hK (.inr hro)
      · rw [hadd_ne e'] at hc'
        exact st.rel.inj c c' y y' K K' hc hc' hne hK hK' hro
  · by_cases e1 : c = b
    · subst e1
      simp only [hadd, hset, if_true, Option.some.injEq] at hc
      subst hc
      have := st.le _ _ hL
      rw [hK] at this; cases this
      exact .inl ⟨c, o, L, by simp [hadd, hset], hro, hL, e⟩
    · rw [hadd_ne e1] at hc
      rcases st.own B ⟨c, y, K, hc, hro, hK, e⟩ with q | q
      · exact .inl (hown B q)
      · exact .inr q
  · by_cases e1 : c = b
    · subst e1; exact .inl (by simp [hadd, hset])
    · rw [hadd_ne e1] at hc
      rcases st.fresh c hc with q | ⟨q1, q2⟩
      · exact .inl (by rw [hadd_ne e1]; exact q)
      · exact .inr ⟨q1, fun K hK => (q2 K hK).imp (hown _) id⟩
theorem snd_frame {f : Nat} {args : List V} {Q : V → H → Prop} (hs : Snd P (.fn f) args h Q) (hb : h b = none) : Snd P (.fn f) args (hadd h b o) fun v h'' => ∃ h', h' b = none ∧ h'' = hadd h' b o ∧ Q v h' := by
  intro μ w args' hv r
  refine (hs μ w args' hv (r.sub (sub_hadd hb))).mono fun d w' ⟨v, h', μ', q, hvd, st⟩ => ?_
  obtain ⟨hb', st'⟩ := st.frame hb r
  exact ⟨v, _, μ', ⟨h', hb', rfl, q⟩, hvd, st'⟩
theorem snd_fin {f : Nat} {args : List V} {Q : V → H → Prop} (hs : Snd P (.fn f) args h Q) : Snd P (.fn f) args h fun v h' => Fin h' ∧ Q v h' := fun μ w args' hv r =>
  (hs μ w args' hv r).mono fun d w' ⟨v, h', μ', q, hvd, st⟩ => ⟨v, h', μ', ⟨st.rel.isFin, q⟩, hvd, st⟩
theorem plainCall_inv {k : Kind} (e : k.plainCall = true) : ∃ g as, k = .h (.call (.c (.fn g [] [])) as) := by
  unfold Kind.plainCall at e
  split at e
  · exact ⟨_, _, rfl⟩
  · cases e
theorem mono_snd : Mono (Snd P) := fun c args h Q Q' hq a => Snd.mono hq a
theorem doE_call {x : IOp} {W : Reads} {a : A} {K : Reads → A → H → Prop} {g : Nat} {as : List Opd} (hw : wantedE a.t x.guard = true) (hk : x.k = .h (.call (.c (.fn g [] [])) as)) :
    doE (Snd P) x W a h K ↔ guardOk a.t x.guard ∧ Snd P (.fn g) (as.map (Opd.ev a.t)) h fun v h' => W.hold x.watch h' ∧ K W { a with t := put a.t x.dst v } h' := by
  rw [doE_h hw hk]
  unfold stepE
  rw [hk]
  simp only [HK.E, Opd.ev, callV, List.nil_append, List.append_nil]
/-- An operation that may come first is ready. -/
def Ready (y : IOp) (a : A) : Prop := guardOk a.t y.guard ∧ (wantedE a.t y.guard = true → match y.k with | .p k => (k.ev (Opd.ev a.t)).isSome = true | .a k => (k.ev (Opd.ev a.t)).isSome = true | _ => False)
theorem Ready.put {y : IOp} {a : A} {d : Option Nat} {v : V} (hb : y.blind d) : Ready y { a with t := put a.t d v } ↔ Ready y a := by
  obtain ⟨g1, g2⟩ := blind_guard hb a.t v
  have hops := blind_opds hb a.t v
  unfold Ready
  simp only [g1, g2]
  refine and_congr Iff.rfl ?_
  cases hk : y.k with
  | p k => rw [hk] at hops; simp only [Kind.opds] at hops; simp only [PK.congr hops]
  | a k => rw [hk] at hops; simp only [Kind.opds] at hops; simp only [AK.congr hops]
  | r k => exact Iff.rfl
  | h k => exact Iff.rfl
theorem Ready.of_t {y : IOp} {a a' : A} (e : a'.t = a.t) (r : Ready y a) : Ready y a' := by
  unfold Ready at r ⊢; rw [e]; exact r
theorem ready_of {call : CP} {y : IOp} {W : Reads} {a : A} {K : Reads → A → H → Prop} (hl : y.k.light = true) (hE : doE call y W a h K) : Ready y a := by
  unfold doE at hE
  refine ⟨hE.1, fun hw => ?_⟩
  have h2 := hE.2
  rw [if_pos hw] at h2
  cases hk : y.k with
  | p k =>
    simp only [hk, stepE] at h2
    simp only
    cases e : k.ev (Opd.ev a.t) with
    | none => rw [e] at h2; exact h2.elim
    | some v => rfl
  | a k =>
    simp only [hk, stepE] at h2
    simp only
    cases e : k.ev (Opd.ev a.t) with
    | none => rw [e] at h2; exact h2.elim
    | some v => rfl
  | r k => rw [hk] at hl; cases hl
  | h k => rw [hk] at hl; cases hl
theorem swap_lets {x y : IOp} (hs : x.lets y = true) {W : Reads} {a : A} {K : Reads → A → H → Prop} (hr : Ready y a)
    (hE : doE (Snd P) x W a h fun W1 a1 h1 => doE (Snd P) y W1 a1 h1 K) : doE (Snd P) y W a h fun W1 a1 h1 => doE (Snd P) x W1 a1 h1 K := by
  simp only [IOp.lets, Bool.and_eq_true] at hs
  obtain ⟨⟨⟨hpc, hwa⟩, hap⟩, hl⟩ := hs
  obtain ⟨hyx, hxy, hn⟩ := apart_spec hap
  have hn' : ∀ z, y.dst = some z → x.dst ≠ some z := fun z e e' => hn z e' e
  obtain ⟨g, as, hk⟩ := plainCall_inv hpc
  have hwl : x.watch = [] := by simpa using hwa
  have hold : ∀ h : H, W.hold x.watch h := fun h z _ hz => by rw [hwl] at hz; cases hz
  by_cases hw : wantedE a.t x.guard = true
  · rw [doE_call hw hk] at hE
    obtain ⟨gx, hS⟩ := hE
    by_cases hwy : wantedE a.t y.guard = true
    · have h2 := hr.2 hwy
      cases hky : y.k with
      | p k =>
        rw [hky] at h2
        simp only at h2
        obtain ⟨vy, e⟩ := Option.isSome_iff_exists.1 h2
        refine (doE_p hwy hky).2 ⟨hr.1, vy, e, ?_⟩
        rw [doE_put mono_snd hxy hn', doE_call hw hk]
        refine ⟨gx, Snd.mono (fun v h' q => ⟨q.1, ?_⟩) hS⟩
        have q2 := q.2
        rw [doE_put mono_snd hyx hn] at q2
        obtain ⟨_, v', e', q3⟩ := (doE_p hwy hky).1 q2
        rw [e] at e'; cases e'
        simp only at q3 ⊢
        rw [put_comm a.t hn]; exact q3
      | a k =>
        rw [hky] at h2
        simp only at h2
        obtain ⟨⟨x0, f⟩, e⟩ := Option.isSome_iff_exists.1 h2
        refine (doE_a hwy hky).2 ⟨hr.1, x0, f, e, fun b hb => ?_⟩
        rw [doE_put mono_snd hxy hn', doE_call hw hk]
        refine ⟨gx, Snd.mono (fun v h'' q => ⟨hold _, ?_⟩) (snd_frame hS hb)⟩
        obtain ⟨h', hb', rfl, _, q2⟩ := q
        rw [doE_put mono_snd hyx hn] at q2
        obtain ⟨_, x0', f', e', q3⟩ := (doE_a hwy hky).1 q2
        rw [e] at e'; cases e'
        have q4 := q3 b hb'
        simp only at q4 ⊢
        rw [put_comm a.t hn]; exact q4
      | r k => rw [hky] at hl; cases hl
      | h k => rw [hky] at hl; cases hl
    · refine (doE_un hwy).2 ⟨hr.1, ?_⟩
      rw [doE_put mono_snd hxy hn', doE_call hw hk]
      refine ⟨gx, Snd.mono (fun v h' q => ⟨q.1, ?_⟩) hS⟩
      have q2 := q.2
      rw [doE_put mono_snd hyx hn] at q2
      have q3 := ((doE_un hwy).1 q2).2
      simp only at q3 ⊢
      rw [put_comm a.t hn]; exact q3
  · obtain ⟨gx, h2⟩ := (doE_un hw).1 hE
    rw [doE_put mono_snd hyx hn] at h2
    refine doE_mono mono_snd (fun W1 a1 h1 q => ?_) (doE_with mono_snd h2)
    obtain ⟨⟨u, hu⟩, _, q⟩ := q
    obtain ⟨g1, g2⟩ := blind_guard hxy a.t u
    exact (doE_un (by rw [hu, g1]; exact hw)).2 ⟨by rw [hu]; exact g2.2 gx, q⟩
theorem doE_fin {x : IOp} {W : Reads} {a : A} {K : Reads → A → H → Prop} (hx : x.k.heavy = false ∨ x.k.plainCall = true) (hf : Fin h) (hE : doE (Snd P) x W a h K) :
    doE (Snd P) x W a h fun W1 a1 h1 => (∃ u, a1.t = put a.t x.dst u) ∧ Fin h1 ∧ K W1 a1 h1 := by
  rcases hx with hx | hx
  · exact doE_mono mono_snd (fun W1 a1 h1 q => ⟨q.1, q.2.1 hx hf, q.2.2⟩) (doE_with mono_snd hE)
  · obtain ⟨g, as, hk⟩ := plainCall_inv hx
    by_cases hw : wantedE a.t x.guard = true
    · rw [doE_call hw hk] at hE ⊢
      exact ⟨hE.1, Snd.mono (fun v h' q => ⟨q.2.1, ⟨v, rfl⟩, q.1, q.2.2⟩) (snd_fin hE.2)⟩
    · obtain ⟨g, q⟩ := (doE_un hw).1 hE
      exact (doE_un hw).2 ⟨g, ⟨_, rfl⟩, hf, q⟩
theorem lets_apart {x y : IOp} (h : x.swaps y = true ∨ x.lets y = true) : y.blind x.dst := by
  rcases h with h | h
  · simp only [IOp.swaps, Bool.and_eq_true] at h; exact (apart_spec h.1.2).1
  · simp only [IOp.lets, Bool.and_eq_true] at h; exact (apart_spec h.1.2).1
theorem lets_fin {x y : IOp} (h : x.swaps y = true ∨ x.lets y = true) : x.k.heavy = false ∨ x.k.plainCall = true := by
  rcases h with h | h
  · simp only [IOp.swaps, Bool.and_eq_true, Bool.not_eq_true'] at h; exact .inl h.1.1
  · simp only [IOp.lets, Bool.and_eq_true] at h; exact .inr h.1.1.1
/-- Told first. -/
theorem front2 {y : IOp} {post : List IOp} {K : A → H → Prop} : ∀ (pre : List IOp) {W : Reads} {a : A} {h : H}, (∀ x ∈ pre, x.swaps y = true ∨ x.lets y = true) → Fin h → Ready y a → drawE (Snd P) (pre ++ y :: post) W a h K →
    doE (Snd P) y W a h fun W' a' h' => drawE (Snd P) (pre ++ post) W' a' h' K
  | [], W, a, h, _, _, _, hE => by rw [List.nil_append, drawE_cons] at hE; exact hE
  | x :: pre, W, a, h, hs, hf, hr, hE => by
    rw [List.cons_append, drawE_cons] at hE
    have hx := hs x (by simp)
    have h2 : doE (Snd P) x W a h fun W1 a1 h1 => doE (Snd P) y W1 a1 h1 fun W2 a2 h2 => drawE (Snd P) (pre ++ post) W2 a2 h2 K :=
      doE_mono mono_snd (fun W1 a1 h1 q => by
        obtain ⟨⟨u, hu⟩, hf1, q⟩ := q
        exact front2 pre (fun z hz => hs z (by simp [hz])) hf1 (Ready.of_t (a := { a with t := put a.t x.dst u }) hu ((Ready.put (lets_apart hx)).2 hr)) q) (doE_fin (lets_fin hx) hf hE)
    have h3 : doE (Snd P) y W a h fun W1 a1 h1 => doE (Snd P) x W1 a1 h1 fun W2 a2 h2 => drawE (Snd P) (pre ++ post) W2 a2 h2 K := by
      rcases hx with hx | hx
      · exact swap mono_snd hx hf (fun W W' a h hs => drawE_anti mono_snd hs fun _ _ => id) h2
      · exact swap_lets hx hr h2
    exact doE_mono mono_snd (fun W1 a1 h1 q => by rw [List.cons_append, drawE_cons]; exact q) h3
end Mir
