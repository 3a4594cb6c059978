/- The mirror, part 21: code, on the machine. -/
import Derived.Test.YtijipnkdabdioaaMir36
set_option linter.unusedSimpArgs false
set_option linter.unusedVariables false
namespace Mir
open Go
variable {P : Program} {n base : Nat} {b : Frame} {cs : List Frame}

/-- How the code's end is reached. -/
def Arr (P : Program) (m : Machine) (b : Frame) (k : List Item) (cs : List Frame) : Ex → Act → World → Prop
  | .nm, a, w => Steps P m (lone (b.atR a k) cs w)
  | .exit id, a, w => ∃ k', exitTo id k' = exitTo id k ∧ Steps P m (lone (b.atR a (.code (.exit id) :: k')) cs w)
  | .ret, a, w => ∃ k', Steps P m (lone (b.atR a (.code .ret :: k')) cs w)
theorem Arr.of_steps {m m1 : Machine} {k : List Item} {e : Ex} {a : Act} {w : World} (h : Steps P m m1) (h' : Arr P m1 b k cs e a w) : Arr P m b k cs e a w := by
  cases e with
  | nm => exact Steps.trans h h'
  | exit id => obtain ⟨k', e, hs⟩ := h'; exact ⟨k', e, Steps.trans h hs⟩
  | ret => obtain ⟨k', hs⟩ := h'; exact ⟨k', Steps.trans h hs⟩
/-- What a piece of code comes to. -/
def Out (P : Program) (n base : Nat) (b : Frame) (k : List Item) (cs : List Frame) (m : Machine) (μ : Mu) (h : H) (w : World) (Q : Ex → A → H → Prop) : Prop :=
  ∃ e a' h' act' μ' w', Q e a' h' ∧ Arr P m b k cs e act' w' ∧ St P μ h w μ' h' w' ∧ SR P n base μ' a' h' act' w'
theorem Out.of_steps {m m1 : Machine} {k : List Item} {μ μ1 : Mu} {h h1 : H} {w w1 : World} {Q : Ex → A → H → Prop} (hs : Steps P m m1) (st : St P μ h w μ1 h1 w1) (o : Out P n base b k cs m1 μ1 h1 w1 Q) : Out P n base b k cs m μ h w Q := by
  obtain ⟨e, a', h', act', μ', w', hQ, ha, hst, hr⟩ := o
  exact ⟨e, a', h', act', μ', w', hQ, .of_steps hs ha, st.trans hst, hr⟩

theorem SR.cond {μ : Mu} {a : A} {h : H} {act : Act} {w : World} (s : SR P n base μ a h act w) {x : Operand} {y : Opd} (hc : cOpd P n x = some y) {t : Bool} (he : y.ev a.t = .bool t) : act.eval x = .bool t := by
  have := rho1 s.rho hc
  rw [he] at this
  exact this.bool_inv

/-- A range over a function (the part that needs the loops' records) is treated on its own. -/
def RangeOk (P : Program) : Prop := ∀ (n base : Nat) (b : Frame) (cs : List Frame) (f : Operand) (ps : Array Tmp) (as bd : Code) (ic : IC), comp P n (.rangeFunc f ps as bd) = some ic → b.roundOf = none → base ≤ base →
  ∀ (k : List Item) (a : A) (h : H) (act : Act) (μ : Mu) (w : World) (Q : Ex → A → H → Prop), base ≤ w.heap.size → SR P n base μ a h act w → E (Snd P) ic a h Q → Out P n base b k cs (lone (b.atR act (.code (.rangeFunc f ps as bd) :: k)) cs w) μ h w Q

theorem exitTo_skip {id : Nat} {x : Item} {k : List Item} (hx : ∀ i, x ≠ .inBlock i) : exitTo id (x :: k) = exitTo id k := by
  cases x <;> first | rfl | exact absurd rfl (hx _)

theorem code_sound (hmix : P.follows .mixedOrders = true) (hrange : RangeOk P) : ∀ (c : Code) {ic : IC}, comp P n c = some ic → (b.roundOf ≠ none → ic.defers = false) →
    ∀ (k : List Item) {a : A} {h : H} {act : Act} {μ : Mu} {w : World} {Q : Ex → A → H → Prop}, base ≤ w.heap.size → SR P n base μ a h act w → E (Snd P) ic a h Q → Out P n base b k cs (lone (b.atR act (.code c :: k)) cs w) μ h w Q := by
  intro c
  induction c with
  | skip =>
    intro ic hc hnd k a h act μ w Q hbase s hE
    simp only [comp] at hc; cases hc
    exact ⟨.nm, a, h, act, μ, w, hE, Steps.one stepR_skip, St.refl s.rel, s⟩
  | label l =>
    intro ic hc hnd k a h act μ w Q hbase s hE
    simp only [comp] at hc; cases hc
    exact ⟨.nm, a, h, act, μ, w, hE, Steps.one stepR_label, St.refl s.rel, s⟩
  | exit id =>
    intro ic hc hnd k a h act μ w Q hbase s hE
    simp only [comp] at hc; cases hc
    exact ⟨.exit id, a, h, act, μ, w, hE, ⟨k, rfl, Steps.refl P _⟩, St.refl s.rel, s⟩
  | ret =>
    intro ic hc hnd k a h act μ w Q hbase s hE
    simp only [comp] at hc; cases hc
    exact ⟨.ret, a, h, act, μ, w, hE, ⟨k, Steps.refl P _⟩, St.refl s.rel, s⟩
  | region id ops draw =>
    intro ic hc hnd k a h act μ w Q hbase s hE
    cases draw with
    | false =>
      simp only [comp, Option.some.injEq] at hc
      split at hc
      case h_2 => subst hc; exact hE.elim
      rename_i l hl
      subst hc
      simp only [E] at hE
      obtain ⟨a', h', act', μ', w', hQ, hs, hst, hr⟩ := ops_steps (b := b) (k := k) (cs := cs) l _ (ops_fit hl) (fun hb => not_dfr (hnd hb)) s hE
      exact ⟨.nm, a', h', act', μ', w', hQ, Steps.head stepR_region hs, hst, hr⟩
    | true =>
      simp only [comp, Option.some.injEq] at hc
      split at hc
      case h_2 => subst hc; exact hE.elim
      rename_i l hl
      subst hc
      simp only [E] at hE
      have st0 : St P μ h w μ h { w with drawn := w.drawn + 1 } := (St.refl s.rel).eqv ⟨rfl, rfl, rfl, rfl⟩
      have s1 : SR P n base μ a h act { w with drawn := w.drawn + 1 } := s.step st0
      obtain ⟨a', h', act', μ', w', hQ, hs, hst, hr⟩ := any_steps (b := b) (k := k) (cs := cs) hl (w.tape w.drawn (.order b.fn id)) (fun hb => not_dfr (hnd hb)) s1 hE
      refine ⟨.nm, a', h', act', μ', w', hQ, Steps.head stepR_region_draw ?_, st0.trans hst, hr⟩
      simp only [Region.schedule, hmix, Bool.true_or, if_true]
      exact hs
  | seq x y ihx ihy =>
    intro ic hc hnd k a h act μ w Q hbase s hE
    simp only [comp] at hc
    split at hc
    · rename_i cx cy hx hy
      cases hc
      simp only [IC.defers, Bool.or_eq_false_iff] at hnd
      simp only [E] at hE
      obtain ⟨e, a1, h1, act1, μ1, w1, hQ, ha, hst, hr⟩ := ihx hx (fun hb => (hnd hb).1) (.code y :: k) hbase s hE
      have hs0 : Steps P (lone (b.atR act (.code (.seq x y) :: k)) cs w) (lone (b.atR act (.code x :: .code y :: k)) cs w) := .one stepR_seq
      cases e with
      | nm =>
        exact Out.of_steps (Steps.trans hs0 ha) hst (ihy hy (fun hb => (hnd hb).2) k (Nat.le_trans hbase hst.size) hr hQ)
      | exit id =>
        obtain ⟨k', e1, hs⟩ := ha
        exact ⟨.exit id, a1, h1, act1, μ1, w1, hQ, ⟨k', e1.trans (exitTo_skip (by intro i e; cases e)), Steps.trans hs0 hs⟩, hst, hr⟩
      | ret =>
        obtain ⟨k', hs⟩ := ha
        exact ⟨.ret, a1, h1, act1, μ1, w1, hQ, ⟨k', Steps.trans hs0 hs⟩, hst, hr⟩
    · cases hc
  | cond c x y ihx ihy =>
    intro ic hc hnd k a h act μ w Q hbase s hE
    simp only [comp] at hc
    split at hc
    · rename_i c' cx cy h1 hx hy
      cases hc
      simp only [IC.defers, Bool.or_eq_false_iff] at hnd
      simp only [E] at hE
      split at hE
      · rename_i t ht
        have hs0 : Steps P (lone (b.atR act (.code (.cond c x y) :: k)) cs w) (lone (b.atR act (.code (if t then x else y) :: k)) cs w) := .one (stepR_cond (s.cond h1 ht))
        cases t with
        | true => exact Out.of_steps hs0 (St.refl s.rel) (ihx hx (fun hb => (hnd hb).1) k hbase s (hE.1 rfl))
        | false => exact Out.of_steps hs0 (St.refl s.rel) (ihy hy (fun hb => (hnd hb).2) k hbase s (hE.2 rfl))
      · exact hE.elim
    · cases hc; exact hE.elim
    · cases hc
  | block id c ih =>
    intro ic hc hnd k a h act μ w Q hbase s hE
    simp only [comp] at hc
    obtain ⟨cc, hcc, rfl⟩ := Option.map_eq_some_iff.1 hc
    simp only [E] at hE
    obtain ⟨e, a1, h1, act1, μ1, w1, hQ, ha, hst, hr⟩ := ih hcc hnd (.inBlock id :: k) hbase s hE
    have hs0 : Steps P (lone (b.atR act (.code (.block id c) :: k)) cs w) (lone (b.atR act (.code c :: .inBlock id :: k)) cs w) := .one stepR_block
    cases e with
    | nm => exact ⟨.nm, a1, h1, act1, μ1, w1, hQ, Steps.trans hs0 (Steps.trans ha (.one stepR_inBlock)), hst, hr⟩
    | ret => obtain ⟨k', hs⟩ := ha; exact ⟨.ret, a1, h1, act1, μ1, w1, hQ, ⟨k', Steps.trans hs0 hs⟩, hst, hr⟩
    | exit i =>
      obtain ⟨k', e1, hs⟩ := ha
      simp only [atBlock] at hQ
      by_cases hi : i = id
      · rw [if_pos hi] at hQ
        have e2 : exitTo i k' = some k := by rw [e1]; simp [exitTo, hi]
        exact ⟨.nm, a1, h1, act1, μ1, w1, hQ, Steps.trans hs0 (Steps.trans hs (.one (stepR_exit e2))), hst, hr⟩
      · rw [if_neg hi] at hQ
        have e2 : exitTo i k' = exitTo i k := by
          rw [e1]
          have : ¬ id = i := fun e => hi e.symm
          simp [exitTo, this]
        exact ⟨.exit i, a1, h1, act1, μ1, w1, hQ, ⟨k', e2, Steps.trans hs0 hs⟩, hst, hr⟩
  | loop c ih =>
    intro ic hc hnd k a h act μ w Q hbase s hE
    simp only [comp] at hc
    obtain ⟨cc, hcc, rfl⟩ := Option.map_eq_some_iff.1 hc
    simp only [E] at hE
    have key := hE (fun a h => ∀ (act : Act) (μ : Mu) (w : World), base ≤ w.heap.size → SR P n base μ a h act w → Out P n base b k cs (lone (b.atR act (.code c :: .inLoop c :: k)) cs w) μ h w Q) (by
      intro a h hb act μ w hbase s
      obtain ⟨e, a1, h1, act1, μ1, w1, hQ, ha, hst, hr⟩ := ih hcc hnd (.inLoop c :: k) hbase s hb
      cases e with
      | nm => exact Out.of_steps (Steps.trans ha (.one stepR_inLoop)) hst (hQ act1 μ1 w1 (Nat.le_trans hbase hst.size) hr)
      | ret => exact ⟨.ret, a1, h1, act1, μ1, w1, hQ, ha, hst, hr⟩
      | exit i =>
        obtain ⟨k', e1, hs⟩ := ha
        exact ⟨.exit i, a1, h1, act1, μ1, w1, hQ, ⟨k', e1.trans (exitTo_skip (by intro i e; cases e)), hs⟩, hst, hr⟩)
    exact Out.of_steps (.one stepR_loop) (St.refl s.rel) (key act μ w hbase s)
  | scope c ih =>
    intro ic hc hnd k a h act μ w Q hbase s hE
    simp only [comp] at hc
    obtain ⟨e, a1, h1, act1, μ1, w1, hQ, ha, hst, hr⟩ := ih hc hnd (.inScope c :: k) hbase s hE
    have hs0 : Steps P (lone (b.atR act (.code (.scope c) :: k)) cs w) (lone (b.atR act (.code c :: .inScope c :: k)) cs w) := .one (step_lone_go (by simp [stepG, stepG.exec, Frame.atR]))
    cases e with
    | nm => exact ⟨.nm, a1, h1, act1, μ1, w1, hQ, Steps.trans hs0 (Steps.trans ha (.one (step_lone_go (by simp [stepG, stepG.exec, Frame.atR])))), hst, hr⟩
    | ret => obtain ⟨k', hs⟩ := ha; exact ⟨.ret, a1, h1, act1, μ1, w1, hQ, ⟨k', Steps.trans hs0 hs⟩, hst, hr⟩
    | exit i =>
      obtain ⟨k', e1, hs⟩ := ha
      exact ⟨.exit i, a1, h1, act1, μ1, w1, hQ, ⟨k', e1.trans (exitTo_skip (by intro i e; cases e)), Steps.trans hs0 hs⟩, hst, hr⟩
  | rangeFunc f ps as bd _ _ =>
    intro ic hc hnd k a h act μ w Q hbase s hE
    by_cases hst : ic = stuckC
    · subst hst; exact hE.elim
    have hro : b.roundOf = none := by
      cases hb : b.roundOf with
      | none => rfl
      | some l =>
        have := hnd (by rw [hb]; simp)
        simp only [comp] at hc
        split at hc
        · split at hc
          · cases hc; cases this
          · cases hc; exact absurd rfl hst
        · cases hc; exact absurd rfl hst
    exact hrange n base b cs f ps as bd ic hc hro (Nat.le_refl _) k a h act μ w Q hbase s hE
  | _ =>
    intro ic hc hnd k a h act μ w Q hbase s hE
    simp only [comp, Option.some.injEq] at hc
    subst hc
    exact hE.elim
end Mir
