/- The mirror, part 16: operations of a region may be done in another order. -/
import Derived.Test.YtijipnkdabdioaaMir2
set_option linter.unusedSimpArgs false
set_option linter.unusedVariables false
namespace Mir
open Go
variable {ρ ρ' : Opd → V} {h h' : H} {call : CP}

def LeM (X Y : CP) : Prop := ∀ c args h (Q Q' : V → H → Prop), (∀ v h, Q v h → Q' v h) → X c args h Q → Y c args h Q'
abbrev Mono (call : CP) : Prop := LeM call call

/-! ### What an operation looks at -/
theorem evBounds_congr {l hh : Option Opd} (len : Nat) (e : ∀ x ∈ oo l ++ oo hh, ρ x = ρ' x) : evBounds ρ len l hh = evBounds ρ' len l hh := by
  cases l <;> cases hh <;> simp only [oo, List.mem_append, List.mem_singleton, List.not_mem_nil, or_false, false_or] at e <;> simp only [evBounds]
  · rw [e _ rfl]
  · rw [e _ rfl]
  · rename_i x y; rw [e x (.inl rfl), e y (.inr rfl)]
theorem fillIn_congr : ∀ (ps : List (Nat × Nat × Opd)) (cs : List V), (∀ x ∈ ps.map (fun p => p.2.2), ρ x = ρ' x) → fillIn ρ cs ps = fillIn ρ' cs ps
  | [], cs, _ => rfl
  | (off, n, x) :: ps, cs, e => by
    simp only [fillIn]
    rw [e x (by simp), fillIn_congr ps _ (fun y hy => e y (by simp at hy ⊢; exact .inr hy))]
theorem map_congr' {l : List Opd} (e : ∀ x ∈ l, ρ x = ρ' x) : l.map ρ = l.map ρ' := List.map_congr_left e
theorem PK.congr {k : PK} (e : ∀ x ∈ k.opds, ρ x = ρ' x) : k.ev ρ = k.ev ρ' := by
  cases k with
  | subStr x l hh => simp only [PK.opds, List.mem_cons] at e; simp only [PK.ev]; rw [e x (.inl rfl)]; split <;> first | rfl | (rw [evBounds_congr _ fun y hy => e y (.inr hy)])
  | subSl es x l hh => simp only [PK.opds, List.mem_cons] at e; simp only [PK.ev]; rw [e x (.inl rfl)]; split <;> first | rfl | (rw [evBounds_congr _ fun y hy => e y (.inr hy)])
  | mkFn f a c =>
    simp only [PK.opds, List.mem_append] at e
    simp only [PK.ev]
    rw [map_congr' fun x hx => e x (.inl hx), map_congr' fun x hx => e x (.inr hx)]
  | build z ps => simp only [PK.opds] at e; simp only [PK.ev]; rw [fillIn_congr ps z e]
  | mnmx mx x xs =>
    simp only [PK.opds, List.mem_cons] at e
    simp only [PK.ev]
    rw [e x (.inl rfl), map_congr' fun y hy => e y (.inr hy)]
  | _ => simp_all [PK.ev, PK.opds]
theorem RK.congr {k : RK} (h : H) (e : ∀ x ∈ k.opds, ρ x = ρ' x) : k.ev ρ h = k.ev ρ' h := by
  cases k with
  | slArr a b x l hh => simp only [RK.opds, List.mem_cons] at e; simp only [RK.ev]; rw [e x (.inl rfl)]; split <;> (try rfl); split <;> (try rfl); split <;> (try rfl); rw [evBounds_congr _ fun y hy => e y (.inr hy)]
  | _ => simp_all [RK.ev, RK.opds]
theorem AK.congr {k : AK} (e : ∀ x ∈ k.opds, ρ x = ρ' x) : k.ev ρ = k.ev ρ' := by
  cases k with
  | mkSl z es len ps => simp only [AK.opds] at e; simp only [AK.ev]; rw [fillIn_congr ps _ e]
  | _ => simp_all [AK.ev, AK.opds]
theorem HK.congr {k : HK} {Q : V → H → Prop} (e : ∀ x ∈ k.opds, ρ x = ρ' x) : k.E call ρ h Q = k.E call ρ' h Q := by
  cases k with
  | call f as =>
    simp only [HK.opds, List.mem_cons] at e
    simp only [HK.E]
    rw [e f (.inl rfl), map_congr' fun y hy => e y (.inr hy)]
  | _ => simp_all [HK.E, HK.opds]

/-! ### More is less -/
theorem HK.mono {X Y : CP} (hm : LeM X Y) {k : HK} {Q Q' : V → H → Prop} (hq : ∀ v h, Q v h → Q' v h) (hE : k.E X ρ h Q) : k.E Y ρ h Q' := by
  cases k <;> simp only [HK.E] at hE ⊢
  case store n x v =>
    split at hE <;> (try exact hE.elim)
    split at hE <;> (try exact hE.elim)
    exact ⟨hE.1, hE.2.1, hE.2.2.1, hq _ _ hE.2.2.2⟩
  case call f as =>
    simp only [callV] at hE ⊢
    split at hE <;> (try exact hE.elim)
    · exact hm _ _ _ _ _ hq hE
    · exact hm _ _ _ _ _ hq hE
  case app es bytes x y =>
    split at hE <;> (try exact hE.elim)
    split at hE <;> (try exact hE.elim)
    · split at hE
      · rename_i c; rw [if_pos c]; exact hq _ _ hE
      · rename_i c; rw [if_neg c]; exact ⟨hE.1, hE.2.1, fun b hb => hq _ _ (hE.2.2 b hb)⟩
    · split at hE
      · rename_i c; rw [if_pos c]; exact ⟨hE.1, hq _ _ hE.2⟩
      · rename_i c; rw [if_neg c]
        split at hE <;> (try exact hE.elim)
        exact ⟨hE.1, hE.2.1, hE.2.2.1, hE.2.2.2.1, fun b hb hb' => hq _ _ (hE.2.2.2.2 b hb hb')⟩
  case copy es x y =>
    split at hE <;> (try exact hE.elim)
    split at hE <;> (try exact hE.elim)
    · exact hq _ _ hE
    · split at hE <;> (try exact hE.elim)
      exact ⟨hE.1, hE.2.1, hq _ _ hE.2.2⟩
  case mapUpd kc m k v =>
    split at hE <;> (try exact hE.elim)
    split at hE <;> (try exact hE.elim)
    refine ⟨hE.1, ?_⟩
    have h2 := hE.2
    split at h2 <;> (try exact h2.elim) <;> exact hq _ _ h2
  case mapEntry kc z m k =>
    split at hE <;> (try exact hE.elim)
    split at hE <;> (try exact hE.elim)
    refine ⟨hE.1, ?_⟩
    have h2 := hE.2
    split at h2 <;> (try exact h2.elim) <;> exact hq _ _ h2
  case entryStore m s v =>
    split at hE <;> (try exact hE.elim)
    split at hE <;> (try exact hE.elim)
    exact ⟨hE.1, hE.2.1, hq _ _ hE.2.2⟩
  case delete kc m k =>
    split at hE <;> (try exact hE.elim)
    split at hE <;> (try exact hE.elim)
    refine ⟨hE.1, ?_⟩
    have h2 := hE.2
    split at h2 <;> (try exact h2.elim) <;> exact hq _ _ h2
  case range m =>
    split at hE <;> (try exact hE.elim)
    · exact fun b hb => hq _ _ (hE b hb)
    · split at hE <;> (try exact hE.elim)
      exact fun b hb => hq _ _ (hE b hb)
  case next it =>
    split at hE <;> (try exact hE.elim)
    split at hE <;> (try exact hE.elim)
    · exact hq _ _ hE
    · split at hE <;> (try exact hE.elim)
      refine ⟨hE.1, fun x hx => ?_⟩
      have h2 := hE.2 x hx
      cases x <;> exact hq _ _ h2
  case rangeStr s =>
    split at hE <;> (try exact hE.elim)
    exact fun b hb => hq _ _ (hE b hb)
  case nextStr it =>
    split at hE <;> (try exact hE.elim)
    split at hE <;> (try exact hE.elim)
    split at hE
    · rename_i c; rw [if_pos c]; exact hq _ _ hE
    · rename_i c; rw [if_neg c]; exact hq _ _ hE
  case clone x =>
    split at hE <;> (try exact hE.elim)
    split at hE <;> (try exact hE.elim)
    exact fun b hb => hq _ _ (hE b hb)

theorem stepE_mono {X Y : CP} (hm : LeM X Y) {o : IOp} {a : A} {K K' : V → A → H → Prop} (hk : ∀ v a h, K v a h → K' v a h) (hE : stepE X o a h K) : stepE Y o a h K' := by
  unfold stepE at hE ⊢
  split at hE
  · split at hE
    · exact hk _ _ _ hE
    · exact hE.elim
  · split at hE
    · exact hk _ _ _ hE
    · exact hE.elim
  · split at hE
    · exact fun b hb => hk _ _ _ (hE b hb)
    · exact hE.elim
  · split at hE
    · exact hk _ _ _ hE
    · exact hE.elim
  · exact HK.mono hm (fun v h => hk _ _ _) hE
theorem opsE_mono {X Y : CP} (hm : LeM X Y) : ∀ {l : List IOp} {a : A} {h : H} {K K' : A → H → Prop}, (∀ a h, K a h → K' a h) → opsE X l a h K → opsE Y l a h K'
  | [], a, h, K, K', hk, hE => hk _ _ hE
  | o :: l, a, h, K, K', hk, hE => by
    simp only [opsE] at hE ⊢
    refine ⟨hE.1, ?_⟩
    have h2 := hE.2
    split at h2
    · rename_i c; rw [if_pos c]; exact stepE_mono hm (fun v a h => opsE_mono hm hk) h2
    · rename_i c; rw [if_neg c]; exact opsE_mono hm hk h2
/-- What is done in a region of open order, operation by operation. -/
def doE (call : CP) (o : IOp) (W : Reads) (a : A) (h : H) (K : Reads → A → H → Prop) : Prop :=
  guardOk a.t o.guard ∧
    if wantedE a.t o.guard then
      match o.k with
      | .r k => stepE call o a h fun v a' h' => K ((o.id, fun h => k.ev (Opd.ev a.t) h, v) :: W) a' h'
      | .h _ => stepE call o a h fun _ a' h' => W.hold o.watch h' ∧ K W a' h'
      | _ => stepE call o a h fun _ a' h' => K W a' h'
    else K W { a with t := put a.t o.dst (.tup []) } h
theorem drawE_cons (o : IOp) (l : List IOp) (W : Reads) (a : A) (h : H) (K : A → H → Prop) : drawE call (o :: l) W a h K = doE call o W a h fun W' a' h' => drawE call l W' a' h' K := by
  obtain ⟨dst, guard, k, id, watch⟩ := o
  cases k <;> rfl
theorem Reads.hold_anti {W W' : Reads} (hs : ∀ x ∈ W', x ∈ W) {l : List Nat} (hw : W.hold l h) : Reads.hold W' l h := fun x hx hl => hw x (hs x hx) hl
theorem doE_mono {X Y : CP} (hm : LeM X Y) {o : IOp} {W : Reads} {a : A} {K K' : Reads → A → H → Prop} (hk : ∀ W a h, K W a h → K' W a h) (hE : doE X o W a h K) : doE Y o W a h K' := by
  unfold doE at hE ⊢
  refine ⟨hE.1, ?_⟩
  have h2 := hE.2
  split at h2
  · rename_i c; rw [if_pos c]
    split at h2
    · exact stepE_mono hm (fun v a h => hk _ _ _) h2
    · exact stepE_mono hm (fun v a h x => ⟨x.1, hk _ _ _ x.2⟩) h2
    · exact stepE_mono hm (fun v a h x => hk _ _ _ x) h2
  · rename_i c; rw [if_neg c]; exact hk _ _ _ h2
theorem doE_anti {X Y : CP} (hm : LeM X Y) {o : IOp} {W W' : Reads} (hs : ∀ x ∈ W', x ∈ W) {a : A} {K K' : Reads → A → H → Prop} (hk : ∀ W W' a h, (∀ x ∈ W', x ∈ W) → K W a h → K' W' a h) (hE : doE X o W a h K) : doE Y o W' a h K' := by
  unfold doE at hE ⊢
  refine ⟨hE.1, ?_⟩
  have h2 := hE.2
  split at h2
  · rename_i c; rw [if_pos c]
    split at h2
    · exact stepE_mono hm (fun v a h => hk _ _ _ _ (fun x hx => by
        rcases List.mem_cons.1 hx with rfl | hx
        · simp
        · exact List.mem_cons_of_mem _ (hs x hx))) h2
    · exact stepE_mono hm (fun v a h x => ⟨Reads.hold_anti hs x.1, hk _ _ _ _ hs x.2⟩) h2
    · exact stepE_mono hm (fun v a h x => hk _ _ _ _ hs x) h2
  · rename_i c; rw [if_neg c]; exact hk _ _ _ _ hs h2
theorem drawE_anti {X Y : CP} (hm : LeM X Y) : ∀ {l : List IOp} {W W' : Reads} {a : A} {h : H} {K K' : A → H → Prop}, (∀ x ∈ W', x ∈ W) → (∀ a h, K a h → K' a h) → drawE X l W a h K → drawE Y l W' a h K'
  | [], W, W', a, h, K, K', _, hk, hE => hk _ _ hE
  | o :: l, W, W', a, h, K, K', hs, hk, hE => by
    rw [drawE_cons] at hE ⊢
    exact doE_anti hm hs (fun W W' a h hs => drawE_anti hm hs hk) hE

/-! ### Temporaries that an operation doesn't look at -/
theorem upd_comm (t : Tm) {d e : Nat} (hn : d ≠ e) (v u : V) : upd (upd t d v) e u = upd (upd t e u) d v := by
  funext i
  simp only [upd]
  by_cases h1 : i = e
  · have h2 : ¬ i = d := fun h2 => hn (h2.symm.trans h1)
    rw [if_pos h1, if_neg h2, if_pos h1]
  · rw [if_neg h1, if_neg h1]
theorem put_comm (t : Tm) {d e : Option Nat} (hn : ∀ x, d = some x → e ≠ some x) (v u : V) : put (put t d v) e u = put (put t e u) d v := by
  cases d with
  | none => cases e <;> rfl
  | some d => cases e with
    | none => rfl
    | some e => exact upd_comm t (fun x => hn d rfl (by rw [x])) v u
theorem ev_put {t : Tm} {d : Option Nat} {v : V} {x : Opd} (hn : ∀ i, d = some i → tmpOf x ≠ some i) : Opd.ev (put t d v) x = Opd.ev t x := by
  cases d with
  | none => rfl
  | some d =>
    cases x with
    | tmp i =>
      have : i ≠ d := fun e => hn d rfl (by simp [tmpOf, e])
      simp [Opd.ev, put, upd, this]
    | c v => rfl
    | glob g => rfl
/-- Does an operation not look at this temporary? -/
def IOp.blind (o : IOp) (d : Option Nat) : Prop := ∀ i, d = some i → i ∉ o.looks
theorem blind_opds {o : IOp} {d : Option Nat} (hb : o.blind d) (t : Tm) (v : V) : ∀ x ∈ o.k.opds, Opd.ev (put t d v) x = Opd.ev t x := fun x hx => ev_put fun i hi e => hb i hi (by
  simp only [IOp.looks, List.mem_append, List.mem_filterMap]
  exact .inl ⟨x, hx, e⟩)
theorem blind_guard {o : IOp} {d : Option Nat} (hb : o.blind d) (t : Tm) (v : V) : wantedE (put t d v) o.guard = wantedE t o.guard ∧ (guardOk (put t d v) o.guard ↔ guardOk t o.guard) := by
  cases hg : o.guard with
  | none => exact ⟨rfl, Iff.rfl⟩
  | some jb =>
    obtain ⟨j, b⟩ := jb
    have : put t d v j = t j := by
      cases d with
      | none => rfl
      | some d =>
        have : j ≠ d := fun e => hb d rfl (by simp [IOp.looks, hg, e])
        simp [put, upd, this]
    constructor
    · simp only [wantedE, this]
    · simp only [guardOk, this]
/-- An operation goes its way whatever another one has put where it doesn't look. -/
theorem stepE_put (hm : Mono call) {o : IOp} {d : Option Nat} {v : V} (hb : o.blind d) (hn : ∀ x, d = some x → o.dst ≠ some x) {a : A} {K : V → A → H → Prop} :
    stepE call o { a with t := put a.t d v } h K ↔ stepE call o a h fun u a' h' => K u { a' with t := put a'.t d v } h' := by
  have hc : ∀ u, put (put a.t d v) o.dst u = put (put a.t o.dst u) d v := fun u => put_comm a.t hn v u
  have hops := blind_opds hb a.t v
  unfold stepE
  cases hk : o.k with
  | p k => rw [hk] at hops; simp only [Kind.opds] at hops; simp only [PK.congr hops, hc]
  | r k => rw [hk] at hops; simp only [Kind.opds] at hops; simp only [RK.congr _ hops, hc]
  | a k => rw [hk] at hops; simp only [Kind.opds] at hops; simp only [AK.congr hops, hc]
  | h k =>
    rw [hk] at hops
    simp only [Kind.opds] at hops
    cases k with
    | dfr f as =>
      simp only [HK.opds, List.mem_cons] at hops
      simp only [hops f (.inl rfl), map_congr' fun y hy => hops y (.inr hy), hc]
    | _ => simp only [HK.congr hops, hc]
end Mir
