/- The mirror, part 17: two operations of a region of open order, told the other way round. -/
import Derived.Test.YtijipnkdabdioaaMir16
set_option linter.unusedSimpArgs false
set_option linter.unusedVariables false
namespace Mir
open Go
variable {ρ ρ' : Opd → V} {h h' : H} {call : CP}

def Fin (h : H) : Prop := ∃ N, ∀ b, N ≤ b → h b = none
theorem hadd_some {h : H} {b i : Nat} {o x : AObj} (hb : h b = none) (hi : h i = some x) : hadd h b o i = some x := by
  have : i ≠ b := fun e => by subst e; rw [hb] at hi; cases hi
  simp [hadd, hset, this, hi]
theorem RK.ev_mono {k : RK} {v : V} {b : Nat} {o : AObj} (hb : h b = none) (he : k.ev ρ h = some v) : k.ev ρ (hadd h b o) = some v := by
  cases k <;> simp only [RK.ev] at he ⊢
  case load n g x =>
    split at he <;> (try cases he; done)
    split at he <;> (try cases he; done)
    rename_i hi
    rw [hadd_some hb hi]; exact he
  case lookup kc z ok m k =>
    split at he <;> (try cases he; done)
    rename_i hk
    rw [if_pos hk]
    split at he <;> (try cases he; done)
    · exact he
    · split at he <;> (try cases he; done)
      rename_i hi
      rw [hadd_some hb hi]; exact he
  case lenMap m =>
    split at he <;> (try cases he; done)
    · exact he
    · split at he <;> (try cases he; done)
      rename_i hi
      rw [hadd_some hb hi]; exact he
  case toStr x =>
    split at he <;> (try cases he; done)
    · exact he
    · split at he <;> (try cases he; done)
      rename_i hi
      rw [hadd_some hb hi]; exact he
  case entry it =>
    split at he <;> (try cases he; done)
    split at he <;> (try cases he; done)
    rename_i hi
    rw [hadd_some hb hi]
    simp only
    split at he <;> (try cases he; done)
    rename_i hi
    rw [hadd_some hb hi]; exact he
  case slArr len es x l hh =>
    split at he <;> (try cases he; done)
    split at he <;> (try cases he; done)
    rename_i hi
    rw [hadd_some hb hi]; exact he

def locOf : V → List Nat
  | .ptr b _ | .sl b _ _ _ | .map b => [b]
  | _ => []
def iterOf (h : H) (i : Nat) : List Nat := match h i with
  | some (.iter (some m) _ _ _) => [m]
  | _ => []
def RK.locs (ρ : Opd → V) (h : H) (k : RK) : List Nat := let l := k.opds.flatMap fun x => locOf (ρ x)
  l ++ l.flatMap (iterOf h)
theorem hadd_ne {h : H} {b i : Nat} {o : AObj} (hi : i ≠ b) : hadd h b o i = h i := by simp [hadd, hset, hi]
theorem RK.ev_add {k : RK} {b : Nat} {o : AObj} (hb : b ∉ k.locs ρ h) : k.ev ρ (hadd h b o) = k.ev ρ h := by
  have h1 : ∀ x ∈ k.opds, ∀ i ∈ locOf (ρ x), i ≠ b := fun x hx i hi e => hb (by
    simp only [RK.locs, List.mem_append, List.mem_flatMap]; exact .inl ⟨x, hx, e ▸ hi⟩)
  have h2 : ∀ x ∈ k.opds, ∀ i ∈ locOf (ρ x), ∀ m ∈ iterOf h i, m ≠ b := fun x hx i hi m hm e => hb (by
    simp only [RK.locs, List.mem_append, List.mem_flatMap]; exact .inr ⟨i, ⟨x, hx, hi⟩, e ▸ hm⟩)
  cases k <;> simp only [RK.ev]
  case load n g x =>
    split <;> (try rfl)
    rename_i i o' e
    rw [hadd_ne (h1 x (by simp [RK.opds]) i (by simp [e, locOf]))]
  case lookup kc z ok m k =>
    split <;> (try rfl)
    split <;> (try rfl)
    rename_i i e
    rw [hadd_ne (h1 m (by simp [RK.opds]) i (by simp [e, locOf]))]
  case lenMap m =>
    split <;> (try rfl)
    rename_i i e
    rw [hadd_ne (h1 m (by simp [RK.opds]) i (by simp [e, locOf]))]
  case toStr x =>
    split <;> (try rfl)
    rename_i i _ _ _ e
    rw [hadd_ne (h1 x (by simp [RK.opds]) i (by simp [e, locOf]))]
  case entry it =>
    split <;> (try rfl)
    rename_i i e
    rw [hadd_ne (h1 it (by simp [RK.opds]) i (by simp [e, locOf]))]
    split <;> (try rfl)
    rename_i m _ _ _ e2
    rw [hadd_ne (h2 it (by simp [RK.opds]) i (by simp [e, locOf]) m (by simp [iterOf, e2]))]
  case slArr len es x l hh =>
    split <;> (try rfl)
    rename_i i o' e
    rw [hadd_ne (h1 x (by simp [RK.opds]) i (by simp [e, locOf]))]

theorem out_of (l : List Nat) : ∃ M, ∀ b, M ≤ b → b ∉ l := by
  induction l with
  | nil => exact ⟨0, fun b _ => by simp⟩
  | cons x l ih =>
    obtain ⟨M, hM⟩ := ih
    refine ⟨max M (x + 1), fun b hb => ?_⟩
    simp only [List.mem_cons, not_or]
    exact ⟨by omega, hM b (by omega)⟩
theorem Fin.pick (hf : Fin h) (l : List Nat) : ∃ b, h b = none ∧ b ∉ l := by
  obtain ⟨N, hN⟩ := hf
  obtain ⟨M, hM⟩ := out_of l
  exact ⟨max N M, hN _ (by omega), hM _ (by omega)⟩
theorem Fin.add (hf : Fin h) (b : Nat) (o : AObj) : Fin (hadd h b o) := by
  obtain ⟨N, hN⟩ := hf
  exact ⟨max N (b + 1), fun i hi => by rw [hadd_ne (by omega)]; exact hN i (by omega)⟩

/-- What an operation does besides, told with it. -/
theorem stepE_with (hm : Mono call) {o : IOp} {a : A} {K : V → A → H → Prop} (hE : stepE call o a h K) :
    stepE call o a h fun v a' h' => a'.t = put a.t o.dst v ∧ (o.k.heavy = false → Fin h → Fin h') ∧ K v a' h' := by
  unfold stepE at hE ⊢
  split at hE
  · split at hE
    · exact ⟨rfl, fun _ => id, hE⟩
    · exact hE.elim
  · split at hE
    · exact ⟨rfl, fun _ => id, hE⟩
    · exact hE.elim
  · split at hE
    · exact fun b hb => ⟨rfl, fun _ hf => hf.add _ _, hE b hb⟩
    · exact hE.elim
  · rename_i f as hk
    split at hE
    · exact ⟨rfl, fun e => (by rw [hk] at e; cases e), hE⟩
    · exact hE.elim
  · rename_i k _ hk
    exact HK.mono hm (fun v h'' x => ⟨rfl, fun e => (by rw [hk] at e; cases e), x⟩) hE

theorem doE_put (hm : Mono call) {o : IOp} {d : Option Nat} {v : V} (hb : o.blind d) (hn : ∀ x, d = some x → o.dst ≠ some x) {W : Reads} {a : A} {K : Reads → A → H → Prop} :
    doE call o W { a with t := put a.t d v } h K ↔ doE call o W a h fun W' a' h' => K W' { a' with t := put a'.t d v } h' := by
  obtain ⟨g1, g2⟩ := blind_guard hb a.t v
  unfold doE
  simp only [g1, g2]
  refine and_congr Iff.rfl ?_
  by_cases hw : wantedE a.t o.guard = true
  · simp only [hw, if_true]
    cases hk : o.k with
    | r k =>
      simp only
      have hops := blind_opds hb a.t v
      rw [hk] at hops
      have : ∀ h, k.ev (Opd.ev (put a.t d v)) h = k.ev (Opd.ev a.t) h := fun h => RK.congr h hops
      simp only [this]
      exact stepE_put hm hb hn
    | p k => exact stepE_put hm hb hn
    | a k => exact stepE_put hm hb hn
    | h k => exact stepE_put hm hb hn
  · simp only [hw, if_false, Bool.false_eq_true]
    rw [put_comm a.t hn v (.tup [])]

/-- The same of a guarded operation. -/
theorem doE_with (hm : Mono call) {o : IOp} {W : Reads} {a : A} {K : Reads → A → H → Prop} (hE : doE call o W a h K) :
    doE call o W a h fun W' a' h' => (∃ v, a'.t = put a.t o.dst v) ∧ (o.k.heavy = false → Fin h → Fin h') ∧ K W' a' h' := by
  unfold doE at hE ⊢
  refine ⟨hE.1, ?_⟩
  have h2 := hE.2
  split at h2
  · rename_i c; rw [if_pos c]
    split at h2
    · exact stepE_mono hm (fun v a' h' x => ⟨⟨v, x.1⟩, x.2.1, x.2.2⟩) (stepE_with hm h2)
    · exact stepE_mono hm (fun v a' h' x => ⟨x.2.2.1, ⟨v, x.1⟩, x.2.1, x.2.2.2⟩) (stepE_with hm h2)
    · exact stepE_mono hm (fun v a' h' x => ⟨⟨v, x.1⟩, x.2.1, x.2.2⟩) (stepE_with hm h2)
  · rename_i c; rw [if_neg c]; exact ⟨⟨_, rfl⟩, fun _ => id, h2⟩

theorem apart_spec {x y : IOp} (e : x.apart y = true) : y.blind x.dst ∧ x.blind y.dst ∧ (∀ d, x.dst = some d → y.dst ≠ some d) := by
  simp only [IOp.apart, Bool.and_eq_true] at e
  refine ⟨fun i hi => ?_, fun i hi => ?_, fun i hi => ?_⟩
  · have := e.1; simp [hi] at this; exact this.1
  · have := e.2; simp [hi] at this; exact this
  · have := e.1; simp [hi] at this; exact this.2
end Mir
