/- The mirror, part 25: how its predicates are used: less asked, calls opened, loops with a measure. -/
import Derived.Test.YtijipnkdabdioaaMir18
set_option linter.unusedSimpArgs false
set_option linter.unusedVariables false
namespace Mir
open Go
variable {X Y : CP} {pg : Pg}

theorem andThen_mono {K K' : A → H → Prop} {Q Q' : Ex → A → H → Prop} (hk : ∀ a h, K a h → K' a h) (hq : ∀ e a h, Q e a h → Q' e a h) : ∀ e a h, andThen K Q e a h → andThen K' Q' e a h := by
  intro e a h; cases e <;> simp only [andThen] <;> first | exact hk _ _ | exact hq _ _ _
theorem atBlock_mono {id : Nat} {Q Q' : Ex → A → H → Prop} (hq : ∀ e a h, Q e a h → Q' e a h) : ∀ e a h, atBlock id Q e a h → atBlock id Q' e a h := by
  intro e a h
  cases e <;> simp only [atBlock] <;> (try exact hq _ _ _)
  split <;> exact hq _ _ _
theorem E_mono (hm : LeM X Y) : ∀ {c : IC} {a : A} {h : H} {Q Q' : Ex → A → H → Prop}, (∀ e a h, Q e a h → Q' e a h) → E X c a h Q → E Y c a h Q' := by
  intro c
  induction c with
  | skip => intro a h Q Q' hq hE; exact hq _ _ _ hE
  | ops l => intro a h Q Q' hq hE; simp only [E] at hE ⊢; exact opsE_mono hm (fun a h => hq _ a h) hE
  | draw l => intro a h Q Q' hq hE; simp only [E] at hE ⊢; exact drawE_anti hm (fun _ => id) (fun a h => hq _ a h) hE
  | seq x y ihx ihy => intro a h Q Q' hq hE; simp only [E] at hE ⊢; exact ihx (andThen_mono (fun a h => ihy hq) hq) hE
  | cond x c d ihc ihd =>
    intro a h Q Q' hq hE
    simp only [E] at hE ⊢
    split at hE
    · exact ⟨fun e => ihc hq (hE.1 e), fun e => ihd hq (hE.2 e)⟩
    · exact hE.elim
  | block id c ih => intro a h Q Q' hq hE; simp only [E] at hE ⊢; exact ih (atBlock_mono hq) hE
  | loop c ih =>
    intro a h Q Q' hq hE
    simp only [E] at hE ⊢
    intro Z hZ
    exact hE Z fun a h hb => hZ a h (ih (andThen_mono (fun _ _ => id) hq) hb)
  | rangeFn f ps as bd _ _ =>
    intro a h Q Q' hq hE
    simp only [E] at hE ⊢
    intro l hl'
    have h2 := hE l hl'
    split at h2
    · refine hm _ _ _ _ _ (fun v h' q => ?_) h2
      obtain ⟨t, ps, as, bd, st, pd, a1, a2, a3⟩ := q
      exact ⟨t, ps, as, bd, st, pd, a1, a2, hq _ _ _ a3⟩
    · exact h2.elim
  | exit id => intro a h Q Q' hq hE; exact hq _ _ _ hE
  | ret => intro a h Q Q' hq hE; exact hq _ _ _ hE

theorem dfrE_mono (hm : LeM X Y) : ∀ {ds : List (V × List V)} {h : H} {K K' : H → Prop}, (∀ h, K h → K' h) → dfrE X ds h K → dfrE Y ds h K'
  | [], h, K, K', hk, hE => hk _ hE
  | (f, args) :: ds, h, K, K', hk, hE => by
    simp only [dfrE] at hE ⊢
    split at hE
    · exact hm _ _ _ _ _ (fun v h => dfrE_mono hm hk) hE
    · exact hE.elim
theorem F_mono (hm : LeM X Y) {c : Callee} {args : List V} {h : H} {Q Q' : V → H → Prop} (hq : ∀ v h, Q v h → Q' v h) (hF : F pg X c args h Q) : F pg Y c args h Q' := by
  cases c with
  | fn f =>
    simp only [F] at hF ⊢
    rcases hF with ⟨v, h1, h2⟩ | ⟨g, h1, h2, h3⟩
    · exact .inl ⟨v, h1, hq _ _ h2⟩
    · refine .inr ⟨g, h1, h2, E_mono hm (fun e a h q => ?_) h3⟩
      exact ⟨q.1, dfrE_mono hm (fun h ⟨vs, h3, r1, r2, r3⟩ => ⟨vs, h3, r1, r2, hq _ _ r3⟩) q.2⟩
  | round l =>
    simp only [F] at hF ⊢
    obtain ⟨t, ps, as, bd, pd, h1, h2, h3⟩ := hF
    refine ⟨t, ps, as, bd, pd, h1, h2, E_mono hm (fun e a h q => ?_) h3⟩
    obtain ⟨q1, q2, t1, ps1, as1, bd1, pd1, q3, q4⟩ := q
    refine ⟨q1, q2, t1, ps1, as1, bd1, pd1, q3, E_mono hm (fun e a h r => ?_) q4⟩
    obtain ⟨r1, t2, ps2, as2, bd2, st2, pd2, h3, r2, r3, r4⟩ := r
    exact ⟨r1, t2, ps2, as2, bd2, st2, pd2, h3, r2, r3, hq _ _ r4⟩

theorem AC.mono : Mono (AC pg) := by
  intro c args h Q Q' hq hA X hX
  exact hA (fun c args h Q => ∀ Q', (∀ v h, Q v h → Q' v h) → X c args h Q') (fun c args h Q hF Q' hq => hX c args h Q' (F_mono (fun c args h Q Q' hq q => q Q' hq) hq hF)) Q' hq
theorem AC.fold {c : Callee} {args : List V} {h : H} {Q : V → H → Prop} (hF : F pg (AC pg) c args h Q) : AC pg c args h Q := by
  intro X hX
  refine hX _ _ _ _ (F_mono (fun c args h Q Q' hq hA => ?_) (fun _ _ => id) hF)
  exact AC.mono c args h Q Q' hq hA X hX
/-- A function's call, by its body. -/
theorem AC.fn {f : Nat} {g : Fn} {args : List V} {h : H} {Q : V → H → Prop} (hg : pg.fns f = some g) (hl : args.length ≤ g.n)
    (hE : E (AC pg) g.body ⟨start args, []⟩ h fun e a h' => (e = .nm ∨ e = .ret) ∧ dfrE (AC pg) a.d h' fun h'' => ∃ vs h3, allSome (g.res.map (resOf a.t h'')) = some vs ∧ Sub h3 h'' ∧ Q (packed vs) h3) : AC pg (.fn f) args h Q :=
  AC.fold (.inr ⟨g, hg, hl, hE⟩)
/-- A loop with a measure. -/
theorem E.loop {call : CP} (hm : Mono call) {c : IC} {Q : Ex → A → H → Prop} (I : A → H → Prop) (m : A → H → Nat) {a : A} {h : H} (h0 : I a h)
    (hs : ∀ a h, I a h → E call c a h (andThen (fun a' h' => I a' h' ∧ m a' h' < m a h) Q)) : E call (.loop c) a h Q := by
  simp only [E]
  intro Z hZ
  have key : ∀ k a h, I a h → m a h < k → Z a h := by
    intro k
    induction k with
    | zero => intro a h _ hk; omega
    | succ k ih =>
      intro a h hi hk
      exact hZ a h (E_mono hm (andThen_mono (fun a' h' q => ih a' h' q.1 (by omega)) fun _ _ _ => id) (hs a h hi))
  exact key _ a h h0 (Nat.lt_succ_self _)
end Mir
