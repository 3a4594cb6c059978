/- The mirror, part 18: an operation that may come first is told first. -/
import Derived.Test.YtijipnkdabdioaaMir17
set_option linter.unusedSimpArgs false
set_option linter.unusedVariables false
namespace Mir
open Go
variable {h h' : H} {call : CP}

theorem hadd_comm (h : H) {b c : Nat} (hn : b ≠ c) (x y : AObj) : hadd (hadd h b x) c y = hadd (hadd h c y) b x := by
  funext i
  simp only [hadd, hset]
  by_cases h1 : i = c
  · have h2 : ¬ i = b := fun h2 => hn (h2.symm.trans h1)
    rw [if_pos h1, if_neg h2, if_pos h1]
  · rw [if_neg h1, if_neg h1]

section
variable {o : IOp} {W : Reads} {a : A} {K : Reads → A → H → Prop}
theorem doE_un (hw : ¬ wantedE a.t o.guard = true) : doE call o W a h K ↔ guardOk a.t o.guard ∧ K W { a with t := put a.t o.dst (.tup []) } h := by
  unfold doE; rw [if_neg hw]
theorem doE_p {k : PK} (hw : wantedE a.t o.guard = true) (hk : o.k = .p k) : doE call o W a h K ↔ guardOk a.t o.guard ∧ ∃ v, k.ev (Opd.ev a.t) = some v ∧ K W { a with t := put a.t o.dst v } h := by
  unfold doE; rw [if_pos hw]; simp only [hk, stepE]
  cases k.ev (Opd.ev a.t) <;> simp
theorem doE_r {k : RK} (hw : wantedE a.t o.guard = true) (hk : o.k = .r k) :
    doE call o W a h K ↔ guardOk a.t o.guard ∧ ∃ v, k.ev (Opd.ev a.t) h = some v ∧ K ((o.id, fun h => k.ev (Opd.ev a.t) h, v) :: W) { a with t := put a.t o.dst v } h := by
  unfold doE; rw [if_pos hw]; simp only [hk, stepE]
  cases k.ev (Opd.ev a.t) h <;> simp
theorem doE_a {k : AK} (hw : wantedE a.t o.guard = true) (hk : o.k = .a k) :
    doE call o W a h K ↔ guardOk a.t o.guard ∧ ∃ x f, k.ev (Opd.ev a.t) = some (x, f) ∧ ∀ b, h b = none → K W { a with t := put a.t o.dst (f b) } (hadd h b x) := by
  unfold doE; rw [if_pos hw]; simp only [hk, stepE]
  cases he : k.ev (Opd.ev a.t) with
  | none => simp
  | some of =>
    obtain ⟨x, f⟩ := of
    constructor
    · rintro ⟨g, q⟩; exact ⟨g, x, f, rfl, q⟩
    · rintro ⟨g, x', f', e, q⟩; cases e; exact ⟨g, q⟩
theorem doE_h {k : HK} (hw : wantedE a.t o.guard = true) (hk : o.k = .h k) :
    doE call o W a h K ↔ guardOk a.t o.guard ∧ stepE call o a h fun v a' h' => W.hold o.watch h' ∧ K W a' h' := by
  unfold doE; rw [if_pos hw]; simp only [hk]
end

theorem swap (hm : Mono call) {x y : IOp} (hs : x.swaps y = true) (hf : Fin h) {W : Reads} {a : A} {K K' : Reads → A → H → Prop} (hk : ∀ W W' a h, (∀ z ∈ W', z ∈ W) → K W a h → K' W' a h)
    (hE : doE call x W a h fun W1 a1 h1 => doE call y W1 a1 h1 K) : doE call y W a h fun W1 a1 h1 => doE call x W1 a1 h1 K' := by
  simp only [IOp.swaps, Bool.and_eq_true, Bool.not_eq_true', Bool.or_eq_true] at hs
  obtain ⟨⟨hxh, hap⟩, hyh⟩ := hs
  obtain ⟨hyx, hxy, hn⟩ := apart_spec hap
  have hS : ∀ vx, (∀ W1 a1 h1, (∃ u, a1.t = put a.t y.dst u) → K' W1 { a1 with t := put a1.t x.dst vx } h1 → doE call x W1 a1 h1 K') → doE call y W { a with t := put a.t x.dst vx } h K →
      doE call y W a h fun W1 a1 h1 => doE call x W1 a1 h1 K' := fun vx hx hy =>
    doE_mono hm (fun W1 a1 h1 q => hx W1 a1 h1 q.1 (hk _ _ _ _ (fun _ => id) q.2.2)) (doE_with hm ((doE_put hm hyx hn).1 hy))
  by_cases hw : wantedE a.t x.guard = true
  · have hg : ∀ (a1 : A) u, a1.t = put a.t y.dst u → guardOk a.t x.guard → guardOk a1.t x.guard ∧ wantedE a1.t x.guard = true := fun a1 u hu g => by
      obtain ⟨g1, g2⟩ := blind_guard hxy a.t u
      rw [hu]; exact ⟨g2.2 g, by rw [g1]; exact hw⟩
    cases hkx : x.k with
    | p k =>
      obtain ⟨gx, vx, he, h2⟩ := (doE_p hw hkx).1 hE
      refine hS vx (fun W1 a1 h1 hu hK => ?_) h2
      obtain ⟨u, hu⟩ := hu
      obtain ⟨g1, g2⟩ := hg a1 u hu gx
      have hops := blind_opds hxy a.t u
      rw [hkx] at hops
      exact (doE_p g2 hkx).2 ⟨g1, vx, by rw [hu, PK.congr hops]; exact he, hK⟩
    | r k =>
      obtain ⟨gx, vx, he, h2⟩ := (doE_r hw hkx).1 hE
      have h3 := (doE_put hm hyx hn).1 h2
      have hR : ∀ W1 (a1 : A) h1 u, a1.t = put a.t y.dst u → k.ev (Opd.ev a.t) h1 = some vx → K' ((x.id, fun h => k.ev (Opd.ev a.t) h, vx) :: W1) { a1 with t := put a1.t x.dst vx } h1 → doE call x W1 a1 h1 K' := by
        intro W1 a1 h1 u hu hev hK
        obtain ⟨g1, g2⟩ := hg a1 u hu gx
        have hops := blind_opds hxy a.t u
        rw [hkx] at hops
        have hcl : ∀ h, k.ev (Opd.ev a1.t) h = k.ev (Opd.ev a.t) h := fun h => by rw [hu]; exact RK.congr h hops
        refine (doE_r g2 hkx).2 ⟨g1, vx, by rw [hcl]; exact hev, ?_⟩
        simp only [hcl]
        exact hK
      by_cases hwy : wantedE a.t y.guard = true
      · cases hky : y.k with
        | p k2 =>
          obtain ⟨gy, vy, he2, h4⟩ := (doE_p hwy hky).1 h3
          exact (doE_p hwy hky).2 ⟨gy, vy, he2, hR _ _ _ vy rfl he (hk _ _ _ _ (fun z hz => hz) h4)⟩
        | r k2 =>
          obtain ⟨gy, vy, he2, h4⟩ := (doE_r hwy hky).1 h3
          refine (doE_r hwy hky).2 ⟨gy, vy, he2, hR _ _ _ vy rfl he (hk _ _ _ _ (fun z hz => ?_) h4)⟩
          simp only [List.mem_cons] at hz ⊢
          rcases hz with hz | hz | hz
          · exact .inr (.inl hz)
          · exact .inl hz
          · exact .inr (.inr hz)
        | a k2 =>
          obtain ⟨gy, o, f, he2, h4⟩ := (doE_a hwy hky).1 h3
          exact (doE_a hwy hky).2 ⟨gy, o, f, he2, fun b hb => hR _ _ _ (f b) rfl (RK.ev_mono hb he) (hk _ _ _ _ (fun z hz => hz) (h4 b hb))⟩
        | h k2 =>
          obtain ⟨gy, h4⟩ := (doE_h hwy hky).1 h3
          have hwat : x.id ∈ y.watch := by
            rcases hyh with e | e
            · rw [hky] at e; cases e
            · rcases e.2 with e | e
              · rw [hkx] at e; cases e
              · simpa using e
          refine (doE_h hwy hky).2 ⟨gy, stepE_mono hm (fun v a1 h1 q => ?_) (stepE_with hm h4)⟩
          obtain ⟨hu, _, hhold, hK⟩ := q
          refine ⟨Reads.hold_anti (fun z hz => List.mem_cons_of_mem _ hz) hhold, ?_⟩
          exact hR _ _ _ v hu (hhold _ (List.mem_cons_self ..) hwat) (hk _ _ _ _ (fun z hz => hz) hK)
      · obtain ⟨gy, h4⟩ := (doE_un hwy).1 h3
        exact (doE_un hwy).2 ⟨gy, hR _ _ _ _ rfl he (hk _ _ _ _ (fun z hz => hz) h4)⟩
    | a k =>
      obtain ⟨gx, o, f, he, h2⟩ := (doE_a hw hkx).1 hE
      have h3 : ∀ b, h b = none → doE call y W a (hadd h b o) fun W1 a1 h1 => K W1 { a1 with t := put a1.t x.dst (f b) } h1 := fun b hb => (doE_put hm hyx hn).1 (h2 b hb)
      have hA : ∀ W1 (a1 : A) h1 u, a1.t = put a.t y.dst u → (∀ b, h1 b = none → K' W1 { a1 with t := put a1.t x.dst (f b) } (hadd h1 b o)) → doE call x W1 a1 h1 K' := by
        intro W1 a1 h1 u hu hK
        obtain ⟨g1, g2⟩ := hg a1 u hu gx
        have hops := blind_opds hxy a.t u
        rw [hkx] at hops
        exact (doE_a g2 hkx).2 ⟨g1, o, f, by rw [hu, AK.congr hops]; exact he, hK⟩
      by_cases hwy : wantedE a.t y.guard = true
      · cases hky : y.k with
        | p k2 =>
          obtain ⟨b0, hb0, _⟩ := hf.pick []
          obtain ⟨gy, vy, he2, _⟩ := (doE_p hwy hky).1 (h3 b0 hb0)
          refine (doE_p hwy hky).2 ⟨gy, vy, he2, hA _ _ _ vy rfl fun b hb => ?_⟩
          obtain ⟨_, vy', he2', h4⟩ := (doE_p hwy hky).1 (h3 b hb)
          rw [he2] at he2'; cases he2'
          exact hk _ _ _ _ (fun z hz => hz) h4
        | r k2 =>
          obtain ⟨b0, hb0, hl0⟩ := hf.pick (k2.locs (Opd.ev a.t) h)
          obtain ⟨gy, vy, he2, _⟩ := (doE_r hwy hky).1 (h3 b0 hb0)
          rw [RK.ev_add hl0] at he2
          refine (doE_r hwy hky).2 ⟨gy, vy, he2, hA _ _ _ vy rfl fun b hb => ?_⟩
          obtain ⟨_, vy', he2', h4⟩ := (doE_r hwy hky).1 (h3 b hb)
          rw [RK.ev_mono hb he2] at he2'; cases he2'
          exact hk _ _ _ _ (fun z hz => hz) h4
        | a k2 =>
          obtain ⟨b0, hb0, _⟩ := hf.pick []
          obtain ⟨gy, o2, f2, he2, _⟩ := (doE_a hwy hky).1 (h3 b0 hb0)
          refine (doE_a hwy hky).2 ⟨gy, o2, f2, he2, fun b2 hb2 => hA _ _ _ (f2 b2) rfl fun b hb => ?_⟩
          have hne : b ≠ b2 := fun e => by subst e; simp [hadd, hset] at hb
          have hb' : h b = none := by rw [hadd_ne hne] at hb; exact hb
          obtain ⟨_, o2', f2', he2', h4⟩ := (doE_a hwy hky).1 (h3 b hb')
          rw [he2] at he2'; cases he2'
          rw [hadd_comm h (Ne.symm hne)]
          exact hk _ _ _ _ (fun z hz => hz) (h4 b2 (by rw [hadd_ne (Ne.symm hne)]; exact hb2))
        | h k2 =>
          rcases hyh with e | e
          · rw [hky] at e; cases e
          · have := e.1; rw [hkx] at this; cases this
      · obtain ⟨b0, hb0, _⟩ := hf.pick []
        obtain ⟨gy, _⟩ := (doE_un hwy).1 (h3 b0 hb0)
        refine (doE_un hwy).2 ⟨gy, hA _ _ _ _ rfl fun b hb => ?_⟩
        exact hk _ _ _ _ (fun z hz => hz) ((doE_un hwy).1 (h3 b hb)).2
    | h k => rw [hkx] at hxh; cases hxh
  · obtain ⟨gx, h2⟩ := (doE_un hw).1 hE
    refine hS _ (fun W1 a1 h1 hu hK => ?_) h2
    obtain ⟨u, hu⟩ := hu
    obtain ⟨g1, g2⟩ := blind_guard hxy a.t u
    refine (doE_un (by rw [hu, g1]; exact hw)).2 ⟨by rw [hu]; exact g2.2 gx, hK⟩

/-- Told first. -/
theorem front (hm : Mono call) {y : IOp} {post : List IOp} {K : A → H → Prop} : ∀ (pre : List IOp) {W : Reads} {a : A} {h : H}, (∀ x ∈ pre, x.swaps y = true) → Fin h → drawE call (pre ++ y :: post) W a h K →
    doE call y W a h fun W' a' h' => drawE call (pre ++ post) W' a' h' K
  | [], W, a, h, _, _, hE => by rw [List.nil_append, drawE_cons] at hE; exact hE
  | x :: pre, W, a, h, hs, hf, hE => by
    rw [List.cons_append, drawE_cons] at hE
    have hx := hs x (by simp)
    have hxh : x.k.heavy = false := by
      simp only [IOp.swaps, Bool.and_eq_true, Bool.not_eq_true'] at hx; exact hx.1.1
    have h2 : doE call x W a h fun W1 a1 h1 => doE call y W1 a1 h1 fun W2 a2 h2 => drawE call (pre ++ post) W2 a2 h2 K :=
      doE_mono hm (fun W1 a1 h1 q => front hm pre (fun z hz => hs z (by simp [hz])) (q.2.1 hxh hf) q.2.2) (doE_with hm hE)
    have h3 := swap hm hx hf (K' := fun W2 a2 h2 => drawE call (pre ++ post) W2 a2 h2 K) (fun W W' a h hs => drawE_anti hm hs fun _ _ => id) h2
    exact doE_mono hm (fun W1 a1 h1 q => by rw [List.cons_append, drawE_cons]; exact q) h3
end Mir
