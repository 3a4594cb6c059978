import Derived.Test.YtipnnfmgecbefaaGreatDoorMir1
/- The mirror, part 16: operations of a region may be done in another order. -/
set_option linter.unusedSimpArgs false
set_option linter.unusedVariables false
namespace Mir
open Go
variable {ρ ρ' : Opd → V} {h h' : H} {call : CP}

def LeM (X Y : CP) : Prop := ∀ c args h (Q Q' : V → H → Prop), (∀ v h, Q v h → Q' v h) → X c args h Q → Y c args h Q'
abbrev Mono (call : CP) : Prop := LeM call call

/-! ### What an operation looks at -/
theorem evBounds_congr {l hh : Option Opd} (len : Nat) (e : ∀ x ∈ oo l ++ oo hh, ρ x = ρ' x) : evBounds ρ len l hh = evBounds ρ' len l hh := by
  cases l <;> cases hh <;> simp only [oo, List.mem_append, List.mem_singleton, List.not_mem_nil, or_false, false_or] at e <;> simp only [evBounds]
  · rw [e _ rfl]
  · rw [e _ rfl]
  · rename_i x y; rw [e x (.inl rfl), e y (.inr rfl)]
theorem fillIn_congr : ∀ (ps : List (Nat × Nat × Opd)) (cs : List V), (∀ x ∈ ps.map (fun p => p.2.2), ρ x = ρ' x) → fillIn ρ cs ps = fillIn ρ' cs ps
  | [], cs, _ => rfl
  | (off, n, x) :: ps, cs, e => by
    simp only [fillIn]
    rw [e x (by simp), fillIn_congr ps _ (fun y hy => e y (by simp at hy ⊢; exact .inr hy))]
theorem map_congr' {l : List Opd} (e : ∀ x ∈ l, ρ x = ρ' x) : l.map ρ = l.map ρ' := List.map_congr_left e
theorem PK.congr {k : PK} (e : ∀ x ∈ k.opds, ρ x = ρ' x) : k.ev ρ = k.ev ρ' := by
  cases k with
  | subStr x l hh => simp only [PK.opds, List.mem_cons] at e; simp only [PK.ev]; rw [e x (.inl rfl)]; split <;> first | rfl | (rw [evBounds_congr _ fun y hy => e y (.inr hy)])
  | subSl es x l hh => simp only [PK.opds, List.mem_cons] at e; simp only [PK.ev]; rw [e x (.inl rfl)]; split <;> first | rfl | (rw [evBounds_congr _ fun y hy => e y (.inr hy)])
  | mkFn f a c =>
    simp only [PK.opds, List.mem_append] at e
    simp only [PK.ev]
    rw [map_congr' fun x hx => e x (.inl hx), map_congr' fun x hx => e x (.inr hx)]
  | build z ps => simp only [PK.opds] at e; simp only [PK.ev]; rw [fillIn_congr ps z e]
  | mnmx mx x xs =>
    simp only [PK.opds, List.mem_cons] at e
    simp only [PK.ev]
    rw [e x (.inl rfl), map_congr' fun y hy => e y (.inr hy)]
  | _ => simp_all [PK.ev, PK.opds]
theorem RK.congr {k : RK} (h : H) (e : ∀ x ∈ k.opds, ρ x = ρ' x) : k.ev ρ h = k.ev ρ' h := by
  cases k with
  | slArr a b x l hh => simp only [RK.opds, List.mem_cons] at e; simp only [RK.ev]; rw [e x (.inl rfl)]; split <;> (try rfl); split <;> (try rfl); split <;> (try rfl); rw [evBounds_congr _ fun y hy => e y (.inr hy)]
  | _ => simp_all [RK.ev, RK.opds]
theorem AK.congr {k : AK} (e : ∀ x ∈ k.opds, ρ x = ρ' x) : k.ev ρ = k.ev ρ' := by
  cases k with
  | mkSl z es len ps => simp only [AK.opds] at e; simp only [AK.ev]; rw [fillIn_congr ps _ e]
  | _ => simp_all [AK.ev, AK.opds]
theorem HK.congr {k : HK} {Q : V → H → Prop} (e : ∀ x ∈ k.opds, ρ x = ρ' x) : k.E call ρ h Q = k.E call ρ' h Q := by
  cases k with
  | call f as =>
    simp only [HK.opds, List.mem_cons] at e
    simp only [HK.E]
    rw [e f (.inl rfl), map_congr' fun y hy => e y (.inr hy)]
  | _ => simp_all [HK.E, HK.opds]

/-! ### More is less -/
theorem HK.mono {X Y : CP} (hm : LeM X Y) {k : HK} {Q Q' : V → H → Prop} (hq : ∀ v h, Q v h → Q' v h) (hE : k.E X ρ h Q) : k.E Y ρ h Q' := by
  cases k <;> simp only [HK.E] at hE ⊢
  case store n x v =>
    split at hE <;> (try exact hE.elim)
    split at hE <;> (try exact hE.elim)
    exact ⟨hE.1, hE.2.1, hE.2.2.1, hq _ _ hE.2.2.2⟩
  case call f as =>
    simp only [callV] at hE ⊢
    split at hE <;> (try exact hE.elim)
    · exact hm _ _ _ _ _ hq hE
    · exact hm _ _ _ _ _ hq hE
  case app es bytes x y =>
    split at hE <;> (try exact hE.elim)
    split at hE <;> (try exact hE.elim)
    · split at hE
      · rename_i c; rw [if_pos c]; exact hq _ _ hE
      · rename_i c; rw [if_neg c]; exact ⟨hE.1, hE.2.1, fun b hb hB => hq _ _ (hE.2.2 b hb hB)⟩
    · split at hE
      · rename_i c; rw [if_pos c]; exact ⟨hE.1, hq _ _ hE.2⟩
      · rename_i c; rw [if_neg c]
        split at hE <;> (try exact hE.elim)
        exact ⟨hE.1, hE.2.1, hE.2.2.1, hE.2.2.2.1, fun b hb hb' hB => hq _ _ (hE.2.2.2.2 b hb hb' hB)⟩
  case copy es x y =>
    split at hE <;> (try exact hE.elim)
    split at hE <;> (try exact hE.elim)
    · exact hq _ _ hE
    · split at hE <;> (try exact hE.elim)
      exact ⟨hE.1, hE.2.1, hq _ _ hE.2.2⟩
  case mapUpd kc m k v =>
    split at hE <;> (try exact hE.elim)
    split at hE <;> (try exact hE.elim)
    refine ⟨hE.1, ?_⟩
    have h2 := hE.2
    split at h2 <;> (try exact h2.elim) <;> exact hq _ _ h2
  case mapEntry kc z m k =>
    split at hE <;> (try exact hE.elim)
    split at hE <;> (try exact hE.elim)
    refine ⟨hE.1, ?_⟩
    have h2 := hE.2
    split at h2 <;> (try exact h2.elim) <;> exact hq _ _ h2
  case entryStore m s v =>
    split at hE <;> (try exact hE.elim)
    split at hE <;> (try exact hE.elim)
    exact ⟨hE.1, hE.2.1, hq _ _ hE.2.2⟩
  case delete kc m k =>
    split at hE <;> (try exact hE.elim)
    split at hE <;> (try exact hE.elim)
    refine ⟨hE.1, ?_⟩
    have h2 := hE.2
    split at h2 <;> (try exact h2.elim) <;> exact hq _ _ h2
  case range m =>
    split at hE <;> (try exact hE.elim)
    · exact fun b hb => hq _ _ (hE b hb)
    · split at hE <;> (try exact hE.elim)
      exact fun b hb => hq _ _ (hE b hb)
  case next it =>
    split at hE <;> (try exact hE.elim)
    split at hE <;> (try exact hE.elim)
    · exact hq _ _ hE
    · split at hE <;> (try exact hE.elim)
      refine ⟨hE.1, fun x hx => ?_⟩
      have h2 := hE.2 x hx
      cases x <;> exact hq _ _ h2
  case rangeStr s =>
    split at hE <;> (try exact hE.elim)
    exact fun b hb => hq _ _ (hE b hb)
  case nextStr it =>
    split at hE <;> (try exact hE.elim)
    split at hE <;> (try exact hE.elim)
    split at hE
    · rename_i c; rw [if_pos c]; exact hq _ _ hE
    · rename_i c; rw [if_neg c]; exact hq _ _ hE
  case clone x =>
    split at hE <;> (try exact hE.elim)
    split at hE <;> (try exact hE.elim)
    exact fun b hb => hq _ _ (hE b hb)
  case ustr x y =>
    split at hE <;> (try exact hE.elim)
    refine ⟨hE.1, hE.2.1, ?_⟩
    have h2 := hE.2.2
    split at h2 <;> (try exact h2.elim)
    · exact ⟨h2.1, hq _ _ h2.2⟩
    · split at h2
      · rename_i c; rw [if_pos c]; exact hq _ _ h2
      · rename_i c; rw [if_neg c]
        split at h2 <;> (try exact h2.elim)
        refine ⟨h2.1, h2.2.1, ?_⟩
        have h3 := h2.2.2
        split at h3 <;> (try exact h3.elim)
        exact hq _ _ h3

theorem stepE_mono {X Y : CP} (hm : LeM X Y) {o : IOp} {a : A} {K K' : V → A → H → Prop} (hk : ∀ v a h, K v a h → K' v a h) (hE : stepE X o a h K) : stepE Y o a h K' := by
  unfold stepE at hE ⊢
  split at hE
  · split at hE
    · exact hk _ _ _ hE
    · exact hE.elim
  · split at hE
    · exact hk _ _ _ hE
    · exact hE.elim
  · split at hE
    · exact fun b hb hB => hk _ _ _ (hE b hb hB)
    · exact hE.elim
  · split at hE
    · exact hk _ _ _ hE
    · exact hE.elim
  · exact HK.mono hm (fun v h => hk _ _ _) hE
theorem opsE_mono {X Y : CP} (hm : LeM X Y) : ∀ {l : List IOp} {a : A} {h : H} {K K' : A → H → Prop}, (∀ a h, K a h → K' a h) → opsE X l a h K → opsE Y l a h K'
  | [], a, h, K, K', hk, hE => hk _ _ hE
  | o :: l, a, h, K, K', hk, hE => by
    simp only [opsE] at hE ⊢
    refine ⟨hE.1, ?_⟩
    have h2 := hE.2
    split at h2
    · rename_i c; rw [if_pos c]; exact stepE_mono hm (fun v a h => opsE_mono hm hk) h2
    · rename_i c; rw [if_neg c]; exact opsE_mono hm hk h2
/-- What is done in a region of open order, operation by operation. -/
def doE (call : CP) (o : IOp) (W : Reads) (a : A) (h : H) (K : Reads → A → H → Prop) : Prop :=
  guardOk a.t o.guard ∧
    if wantedE a.t o.guard then
      match o.k with
      | .r k => stepE call o a h fun v a' h' => K ((o.id, k.rd (Opd.ev a.t), v) :: W) a' h'
      | .h _ => stepE call o a h fun _ a' h' => W.hold o.watch h' ∧ K W a' h'
      | _ => stepE call o a h fun _ a' h' => K W a' h'
    else K W { a with t := put a.t o.dst (.tup []) } h
theorem drawE_cons (o : IOp) (l : List IOp) (W : Reads) (a : A) (h : H) (K : A → H → Prop) : drawE call (o :: l) W a h K = doE call o W a h fun W' a' h' => drawE call l W' a' h' K := by
  obtain ⟨dst, guard, k, id, watch⟩ := o
  cases k <;> rfl
theorem Reads.hold_anti {W W' : Reads} (hs : ∀ x ∈ W', x ∈ W) {l : List Nat} (hw : W.hold l h) : Reads.hold W' l h := fun x hx hl => hw x (hs x hx) hl
theorem doE_mono {X Y : CP} (hm : LeM X Y) {o : IOp} {W : Reads} {a : A} {K K' : Reads → A → H → Prop} (hk : ∀ W a h, K W a h → K' W a h) (hE : doE X o W a h K) : doE Y o W a h K' := by
  unfold doE at hE ⊢
  refine ⟨hE.1, ?_⟩
  have h2 := hE.2
  split at h2
  · rename_i c; rw [if_pos c]
    split at h2
    · exact stepE_mono hm (fun v a h => hk _ _ _) h2
    · exact stepE_mono hm (fun v a h x => ⟨x.1, hk _ _ _ x.2⟩) h2
    · exact stepE_mono hm (fun v a h x => hk _ _ _ x) h2
  · rename_i c; rw [if_neg c]; exact hk _ _ _ h2
theorem doE_anti {X Y : CP} (hm : LeM X Y) {o : IOp} {W W' : Reads} (hs : ∀ x ∈ W', x ∈ W) {a : A} {K K' : Reads → A → H → Prop} (hk : ∀ W W' a h, (∀ x ∈ W', x ∈ W) → K W a h → K' W' a h) (hE : doE X o W a h K) : doE Y o W' a h K' := by
  unfold doE at hE ⊢
  refine ⟨hE.1, ?_⟩
  have h2 := hE.2
  split at h2
  · rename_i c; rw [if_pos c]
    split at h2
    · exact stepE_mono hm (fun v a h => hk _ _ _ _ (fun x hx => by
        rcases List.mem_cons.1 hx with rfl | hx
        · simp
        · exact List.mem_cons_of_mem _ (hs x hx))) h2
    · exact stepE_mono hm (fun v a h x => ⟨Reads.hold_anti hs x.1, hk _ _ _ _ hs x.2⟩) h2
    · exact stepE_mono hm (fun v a h x => hk _ _ _ _ hs x) h2
  · rename_i c; rw [if_neg c]; exact hk _ _ _ _ hs h2
theorem drawE_anti {X Y : CP} (hm : LeM X Y) : ∀ {l : List IOp} {W W' : Reads} {a : A} {h : H} {K K' : A → H → Prop}, (∀ x ∈ W', x ∈ W) → (∀ a h, K a h → K' a h) → drawE X l W a h K → drawE Y l W' a h K'
  | [], W, W', a, h, K, K', _, hk, hE => hk _ _ hE
  | o :: l, W, W', a, h, K, K', hs, hk, hE => by
    rw [drawE_cons] at hE ⊢
    exact doE_anti hm hs (fun W W' a h hs => drawE_anti hm hs hk) hE

/-! ### Temporaries that an operation doesn't look at -/
theorem upd_comm (t : Tm) {d e : Nat} (hn : d ≠ e) (v u : V) : upd (upd t d v) e u = upd (upd t e u) d v := by
  funext i
  simp only [upd]
  by_cases h1 : i = e
  · have h2 : ¬ i = d := fun h2 => hn (h2.symm.trans h1)
    rw [if_pos h1, if_neg h2, if_pos h1]
  · rw [if_neg h1, if_neg h1]
theorem put_comm (t : Tm) {d e : Option Nat} (hn : ∀ x, d = some x → e ≠ some x) (v u : V) : put (put t d v) e u = put (put t e u) d v := by
  cases d with
  | none => cases e <;> rfl
  | some d => cases e with
    | none => rfl
    | some e => exact upd_comm t (fun x => hn d rfl (by rw [x])) v u
theorem ev_put {t : Tm} {d : Option Nat} {v : V} {x : Opd} (hn : ∀ i, d = some i → tmpOf x ≠ some i) : Opd.ev (put t d v) x = Opd.ev t x := by
  cases d with
  | none => rfl
  | some d =>
    cases x with
    | tmp i =>
      have : i ≠ d := fun e => hn d rfl (by simp [tmpOf, e])
      simp [Opd.ev, put, upd, this]
    | c v => rfl
    | glob g => rfl
/-- Does an operation not look at this temporary? -/
def IOp.blind (o : IOp) (d : Option Nat) : Prop := ∀ i, d = some i → i ∉ o.looks
theorem blind_opds {o : IOp} {d : Option Nat} (hb : o.blind d) (t : Tm) (v : V) : ∀ x ∈ o.k.opds, Opd.ev (put t d v) x = Opd.ev t x := fun x hx => ev_put fun i hi e => hb i hi (by
  simp only [IOp.looks, List.mem_append, List.mem_filterMap]
  exact .inl ⟨x, hx, e⟩)
theorem blind_guard {o : IOp} {d : Option Nat} (hb : o.blind d) (t : Tm) (v : V) : wantedE (put t d v) o.guard = wantedE t o.guard ∧ (guardOk (put t d v) o.guard ↔ guardOk t o.guard) := by
  cases hg : o.guard with
  | none => exact ⟨rfl, Iff.rfl⟩
  | some jb =>
    obtain ⟨j, b⟩ := jb
    have : put t d v j = t j := by
      cases d with
      | none => rfl
      | some d =>
        have : j ≠ d := fun e => hb d rfl (by simp [IOp.looks, hg, e])
        simp [put, upd, this]
    constructor
    · simp only [wantedE, this]
    · simp only [guardOk, this]
/-- An operation goes its way whatever another one has put where it doesn't look. -/
theorem stepE_put (hm : Mono call) {o : IOp} {d : Option Nat} {v : V} (hb : o.blind d) (hn : ∀ x, d = some x → o.dst ≠ some x) {a : A} {K : V → A → H → Prop} :
    stepE call o { a with t := put a.t d v } h K ↔ stepE call o a h fun u a' h' => K u { a' with t := put a'.t d v } h' := by
  have hc : ∀ u, put (put a.t d v) o.dst u = put (put a.t o.dst u) d v := fun u => put_comm a.t hn v u
  have hops := blind_opds hb a.t v
  unfold stepE
  cases hk : o.k with
  | p k => rw [hk] at hops; simp only [Kind.opds] at hops; simp only [PK.congr hops, hc]
  | r k => rw [hk] at hops; simp only [Kind.opds] at hops; simp only [RK.congr _ hops, hc]
  | a k => rw [hk] at hops; simp only [Kind.opds] at hops; simp only [AK.congr hops, hc]
  | h k =>
    rw [hk] at hops
    simp only [Kind.opds] at hops
    cases k with
    | dfr f as =>
      simp only [HK.opds, List.mem_cons] at hops
      simp only [hops f (.inl rfl), map_congr' fun y hy => hops y (.inr hy), hc]
    | _ => simp only [HK.congr hops, hc]
end Mir

/- The mirror, part 17: two operations of a region of open order, told the other way round. -/
set_option linter.unusedSimpArgs false
set_option linter.unusedVariables false
namespace Mir
open Go
variable {ρ ρ' : Opd → V} {h h' : H} {call : CP}

def Fin (h : H) : Prop := ∃ N, ∀ b, N ≤ b → h b = none
def locOf : V → List Nat
  | .ptr b _ | .sl b _ _ _ | .map b => [b]
  | _ => []
def iterOf (h : H) (i : Nat) : List Nat := match h i with
  | some (.iter (some m) _ _ _) => [m]
  | _ => []
def RK.gl : RK → List Nat
  | .idxSub g _ _ => [g]
  | _ => []
def RK.locs (ρ : Opd → V) (h : H) (k : RK) : List Nat := let l := k.opds.flatMap fun x => locOf (ρ x)
  k.gl ++ (l ++ l.flatMap (iterOf h))
theorem hadd_ne {h : H} {b i : Nat} {o : AObj} (hi : i ≠ b) : hadd h b o i = h i := by simp [hadd, hset, hi]
theorem RK.ev_add {k : RK} {b : Nat} {o : AObj} (hb : b ∉ k.locs ρ h) : k.ev ρ (hadd h b o) = k.ev ρ h := by
  have h1 : ∀ x ∈ k.opds, ∀ i ∈ locOf (ρ x), i ≠ b := fun x hx i hi e => hb (by
    simp only [RK.locs, List.mem_append, List.mem_flatMap]; exact .inr (.inl ⟨x, hx, e ▸ hi⟩))
  have h2 : ∀ x ∈ k.opds, ∀ i ∈ locOf (ρ x), ∀ m ∈ iterOf h i, m ≠ b := fun x hx i hi m hm e => hb (by
    simp only [RK.locs, List.mem_append, List.mem_flatMap]; exact .inr (.inr ⟨i, ⟨x, hx, hi⟩, e ▸ hm⟩))
  have h3 : ∀ g ∈ k.gl, g ≠ b := fun g hg e => hb (by
    simp only [RK.locs, List.mem_append]; exact .inl (e ▸ hg))
  cases k <;> simp only [RK.ev]
  case load n g x =>
    split <;> (try rfl)
    rename_i i o' e
    rw [hadd_ne (h1 x (by simp [RK.opds]) i (by simp [e, locOf]))]
  case lookup kc z ok m k =>
    split <;> (try rfl)
    split <;> (try rfl)
    rename_i i e
    rw [hadd_ne (h1 m (by simp [RK.opds]) i (by simp [e, locOf]))]
  case lenMap m =>
    split <;> (try rfl)
    rename_i i e
    rw [hadd_ne (h1 m (by simp [RK.opds]) i (by simp [e, locOf]))]
  case toStr x =>
    split <;> (try rfl)
    rename_i i _ _ _ e
    rw [hadd_ne (h1 x (by simp [RK.opds]) i (by simp [e, locOf]))]
  case entry it =>
    split <;> (try rfl)
    rename_i i e
    rw [hadd_ne (h1 it (by simp [RK.opds]) i (by simp [e, locOf]))]
    split <;> (try rfl)
    rename_i m _ _ _ e2
    rw [hadd_ne (h2 it (by simp [RK.opds]) i (by simp [e, locOf]) m (by simp [iterOf, e2]))]
  case slArr len es x l hh =>
    split <;> (try rfl)
    rename_i i o' e
    rw [hadd_ne (h1 x (by simp [RK.opds]) i (by simp [e, locOf]))]
  case uns x =>
    split <;> (try rfl)
    rename_i i e
    rw [hadd_ne (h1 x (by simp [RK.opds]) i (by simp [e, locOf]))]
  case idxSub g x y => rw [hadd_ne (h3 g (by simp [RK.gl]))]

theorem out_of (l : List Nat) : ∃ M, ∀ b, M ≤ b → b ∉ l := by
  induction l with
  | nil => exact ⟨0, fun b _ => by simp⟩
  | cons x l ih =>
    obtain ⟨M, hM⟩ := ih
    refine ⟨max M (x + 1), fun b hb => ?_⟩
    simp only [List.mem_cons, not_or]
    exact ⟨by omega, hM b (by omega)⟩
theorem Fin.pick (hf : Fin h) (l : List Nat) : ∃ b, h b = none ∧ b ∉ l := by
  obtain ⟨N, hN⟩ := hf
  obtain ⟨M, hM⟩ := out_of l
  exact ⟨max N M, hN _ (by omega), hM _ (by omega)⟩
theorem Fin.pickB (hf : Fin h) (l : List Nat) (k : AK) : ∃ b, h b = none ∧ b ∉ l ∧ k.fits b := by
  obtain ⟨N, hN⟩ := hf
  obtain ⟨M, hM⟩ := out_of l
  have hB : ∃ b, h b = none ∧ b ∉ l ∧ isB b := ⟨2 * (max N M + 1000) + 1, hN _ (by omega), hM _ (by omega), by unfold isB; omega⟩
  have hW : ∃ b, h b = none ∧ b ∉ l ∧ isW b := ⟨4 * (max N M + 1000) + 2, hN _ (by omega), hM _ (by omega), by unfold isW; omega⟩
  cases k with
  | make z es bytes l c => obtain ⟨b, h1, h2, h3⟩ := hB; exact ⟨b, h1, h2, fun _ => h3⟩
  | allocW z => exact hW
  | _ => obtain ⟨b, h1, h2, _⟩ := hB; exact ⟨b, h1, h2, trivial⟩
theorem Fin.add (hf : Fin h) (b : Nat) (o : AObj) : Fin (hadd h b o) := by
  obtain ⟨N, hN⟩ := hf
  exact ⟨max N (b + 1), fun i hi => by rw [hadd_ne (by omega)]; exact hN i (by omega)⟩

/-- What an operation does besides, told with it. -/
theorem stepE_with (hm : Mono call) {o : IOp} {a : A} {K : V → A → H → Prop} (hE : stepE call o a h K) :
    stepE call o a h fun v a' h' => a'.t = put a.t o.dst v ∧ (o.k.heavy = false → Fin h → Fin h') ∧ K v a' h' := by
  unfold stepE at hE ⊢
  split at hE
  · split at hE
    · exact ⟨rfl, fun _ => id, hE⟩
    · exact hE.elim
  · split at hE
    · exact ⟨rfl, fun _ => id, hE⟩
    · exact hE.elim
  · split at hE
    · exact fun b hb hB => ⟨rfl, fun _ hf => hf.add _ _, hE b hb hB⟩
    · exact hE.elim
  · rename_i f as hk
    split at hE
    · exact ⟨rfl, fun e => (by rw [hk] at e; cases e), hE⟩
    · exact hE.elim
  · rename_i k _ hk
    exact HK.mono hm (fun v h'' x => ⟨rfl, fun e => (by rw [hk] at e; cases e), x⟩) hE

theorem doE_put (hm : Mono call) {o : IOp} {d : Option Nat} {v : V} (hb : o.blind d) (hn : ∀ x, d = some x → o.dst ≠ some x) {W : Reads} {a : A} {K : Reads → A → H → Prop} :
    doE call o W { a with t := put a.t d v } h K ↔ doE call o W a h fun W' a' h' => K W' { a' with t := put a'.t d v } h' := by
  obtain ⟨g1, g2⟩ := blind_guard hb a.t v
  unfold doE
  simp only [g1, g2]
  refine and_congr Iff.rfl ?_
  by_cases hw : wantedE a.t o.guard = true
  · simp only [hw, if_true]
    cases hk : o.k with
    | r k =>
      simp only
      have hops := blind_opds hb a.t v
      rw [hk] at hops
      have : k.rd (Opd.ev (put a.t d v)) = k.rd (Opd.ev a.t) := Subtype.ext (funext fun h => RK.congr h hops)
      simp only [this]
      exact stepE_put hm hb hn
    | p k => exact stepE_put hm hb hn
    | a k => exact stepE_put hm hb hn
    | h k => exact stepE_put hm hb hn
  · simp only [hw, if_false, Bool.false_eq_true]
    rw [put_comm a.t hn v (.tup [])]

/-- The same of a guarded operation. -/
theorem doE_with (hm : Mono call) {o : IOp} {W : Reads} {a : A} {K : Reads → A → H → Prop} (hE : doE call o W a h K) :
    doE call o W a h fun W' a' h' => (∃ v, a'.t = put a.t o.dst v) ∧ (o.k.heavy = false → Fin h → Fin h') ∧ K W' a' h' := by
  unfold doE at hE ⊢
  refine ⟨hE.1, ?_⟩
  have h2 := hE.2
  split at h2
  · rename_i c; rw [if_pos c]
    split at h2
    · exact stepE_mono hm (fun v a' h' x => ⟨⟨v, x.1⟩, x.2.1, x.2.2⟩) (stepE_with hm h2)
    · exact stepE_mono hm (fun v a' h' x => ⟨x.2.2.1, ⟨v, x.1⟩, x.2.1, x.2.2.2⟩) (stepE_with hm h2)
    · exact stepE_mono hm (fun v a' h' x => ⟨⟨v, x.1⟩, x.2.1, x.2.2⟩) (stepE_with hm h2)
  · rename_i c; rw [if_neg c]; exact ⟨⟨_, rfl⟩, fun _ => id, h2⟩

theorem apart_spec {x y : IOp} (e : x.apart y = true) : y.blind x.dst ∧ x.blind y.dst ∧ (∀ d, x.dst = some d → y.dst ≠ some d) := by
  simp only [IOp.apart, Bool.and_eq_true] at e
  refine ⟨fun i hi => ?_, fun i hi => ?_, fun i hi => ?_⟩
  · have := e.1; simp [hi] at this; exact this.1
  · have := e.2; simp [hi] at this; exact this
  · have := e.1; simp [hi] at this; exact this.2
end Mir

/- The mirror, part 18: an operation that may come first is told first. -/
set_option linter.unusedSimpArgs false
set_option linter.unusedVariables false
namespace Mir
open Go
variable {h h' : H} {call : CP}

theorem hadd_comm (h : H) {b c : Nat} (hn : b ≠ c) (x y : AObj) : hadd (hadd h b x) c y = hadd (hadd h c y) b x := by
  funext i
  simp only [hadd, hset]
  by_cases h1 : i = c
  · have h2 : ¬ i = b := fun h2 => hn (h2.symm.trans h1)
    rw [if_pos h1, if_neg h2, if_pos h1]
  · rw [if_neg h1, if_neg h1]

section
variable {o : IOp} {W : Reads} {a : A} {K : Reads → A → H → Prop}
theorem doE_un (hw : ¬ wantedE a.t o.guard = true) : doE call o W a h K ↔ guardOk a.t o.guard ∧ K W { a with t := put a.t o.dst (.tup []) } h := by
  unfold doE; rw [if_neg hw]
theorem doE_p {k : PK} (hw : wantedE a.t o.guard = true) (hk : o.k = .p k) : doE call o W a h K ↔ guardOk a.t o.guard ∧ ∃ v, k.ev (Opd.ev a.t) = some v ∧ K W { a with t := put a.t o.dst v } h := by
  unfold doE; rw [if_pos hw]; simp only [hk, stepE]
  cases k.ev (Opd.ev a.t) <;> simp
theorem doE_r {k : RK} (hw : wantedE a.t o.guard = true) (hk : o.k = .r k) :
    doE call o W a h K ↔ guardOk a.t o.guard ∧ ∃ v, k.ev (Opd.ev a.t) h = some v ∧ K ((o.id, k.rd (Opd.ev a.t), v) :: W) { a with t := put a.t o.dst v } h := by
  unfold doE; rw [if_pos hw]; simp only [hk, stepE]
  cases k.ev (Opd.ev a.t) h <;> simp
theorem doE_a {k : AK} (hw : wantedE a.t o.guard = true) (hk : o.k = .a k) :
    doE call o W a h K ↔ guardOk a.t o.guard ∧ ∃ x f, k.ev (Opd.ev a.t) = some (x, f) ∧ ∀ b, h b = none → k.fits b → K W { a with t := put a.t o.dst (f b) } (hadd h b x) := by
  unfold doE; rw [if_pos hw]; simp only [hk, stepE]
  cases he : k.ev (Opd.ev a.t) with
  | none => simp
  | some of =>
    obtain ⟨x, f⟩ := of
    constructor
    · rintro ⟨g, q⟩; exact ⟨g, x, f, rfl, q⟩
    · rintro ⟨g, x', f', e, q⟩; cases e; exact ⟨g, q⟩
theorem doE_h {k : HK} (hw : wantedE a.t o.guard = true) (hk : o.k = .h k) :
    doE call o W a h K ↔ guardOk a.t o.guard ∧ stepE call o a h fun v a' h' => W.hold o.watch h' ∧ K W a' h' := by
  unfold doE; rw [if_pos hw]; simp only [hk]
end

theorem swap (hm : Mono call) {x y : IOp} (hs : x.swaps y = true) (hf : Fin h) {W : Reads} {a : A} {K K' : Reads → A → H → Prop} (hk : ∀ W W' a h, (∀ z ∈ W', z ∈ W) → K W a h → K' W' a h)
    (hE : doE call x W a h fun W1 a1 h1 => doE call y W1 a1 h1 K) : doE call y W a h fun W1 a1 h1 => doE call x W1 a1 h1 K' := by
  simp only [IOp.swaps, Bool.and_eq_true, Bool.not_eq_true', Bool.or_eq_true] at hs
  obtain ⟨⟨hxh, hap⟩, hyh⟩ := hs
  obtain ⟨hyx, hxy, hn⟩ := apart_spec hap
  have hS : ∀ vx, (∀ W1 a1 h1, (∃ u, a1.t = put a.t y.dst u) → K' W1 { a1 with t := put a1.t x.dst vx } h1 → doE call x W1 a1 h1 K') → doE call y W { a with t := put a.t x.dst vx } h K →
      doE call y W a h fun W1 a1 h1 => doE call x W1 a1 h1 K' := fun vx hx hy =>
    doE_mono hm (fun W1 a1 h1 q => hx W1 a1 h1 q.1 (hk _ _ _ _ (fun _ => id) q.2.2)) (doE_with hm ((doE_put hm hyx hn).1 hy))
  by_cases hw : wantedE a.t x.guard = true
  · have hg : ∀ (a1 : A) u, a1.t = put a.t y.dst u → guardOk a.t x.guard → guardOk a1.t x.guard ∧ wantedE a1.t x.guard = true := fun a1 u hu g => by
      obtain ⟨g1, g2⟩ := blind_guard hxy a.t u
      rw [hu]; exact ⟨g2.2 g, by rw [g1]; exact hw⟩
    cases hkx : x.k with
    | p k =>
      obtain ⟨gx, vx, he, h2⟩ := (doE_p hw hkx).1 hE
      refine hS vx (fun W1 a1 h1 hu hK => ?_) h2
      obtain ⟨u, hu⟩ := hu
      obtain ⟨g1, g2⟩ := hg a1 u hu gx
      have hops := blind_opds hxy a.t u
      rw [hkx] at hops
      exact (doE_p g2 hkx).2 ⟨g1, vx, by rw [hu, PK.congr hops]; exact he, hK⟩
    | r k =>
      obtain ⟨gx, vx, he, h2⟩ := (doE_r hw hkx).1 hE
      have h3 := (doE_put hm hyx hn).1 h2
      have hR : ∀ W1 (a1 : A) h1 u, a1.t = put a.t y.dst u → k.ev (Opd.ev a.t) h1 = some vx → K' ((x.id, k.rd (Opd.ev a.t), vx) :: W1) { a1 with t := put a1.t x.dst vx } h1 → doE call x W1 a1 h1 K' := by
        intro W1 a1 h1 u hu hev hK
        obtain ⟨g1, g2⟩ := hg a1 u hu gx
        have hops := blind_opds hxy a.t u
        rw [hkx] at hops
        have hcl : ∀ h, k.ev (Opd.ev a1.t) h = k.ev (Opd.ev a.t) h := fun h => by rw [hu]; exact RK.congr h hops
        refine (doE_r g2 hkx).2 ⟨g1, vx, by rw [hcl]; exact hev, ?_⟩
        rw [show k.rd (Opd.ev a1.t) = k.rd (Opd.ev a.t) from Subtype.ext (funext hcl)]
        exact hK
      by_cases hwy : wantedE a.t y.guard = true
      · cases hky : y.k with
        | p k2 =>
          obtain ⟨gy, vy, he2, h4⟩ := (doE_p hwy hky).1 h3
          exact (doE_p hwy hky).2 ⟨gy, vy, he2, hR _ _ _ vy rfl he (hk _ _ _ _ (fun z hz => hz) h4)⟩
        | r k2 =>
          obtain ⟨gy, vy, he2, h4⟩ := (doE_r hwy hky).1 h3
          refine (doE_r hwy hky).2 ⟨gy, vy, he2, hR _ _ _ vy rfl he (hk _ _ _ _ (fun z hz => ?_) h4)⟩
          simp only [List.mem_cons] at hz ⊢
          rcases hz with hz | hz | hz
          · exact .inr (.inl hz)
          · exact .inl hz
          · exact .inr (.inr hz)
        | a k2 =>
          obtain ⟨gy, o, f, he2, h4⟩ := (doE_a hwy hky).1 h3
          exact (doE_a hwy hky).2 ⟨gy, o, f, he2, fun b hb hB => hR _ _ _ (f b) rfl (RK.ev_mono hb he) (hk _ _ _ _ (fun z hz => hz) (h4 b hb hB))⟩
        | h k2 =>
          obtain ⟨gy, h4⟩ := (doE_h hwy hky).1 h3
          have hwat : x.id ∈ y.watch := by
            rcases hyh with e | e
            · rw [hky] at e; cases e
            · rcases e.2 with e | e
              · rw [hkx] at e; cases e
              · simpa using e
          refine (doE_h hwy hky).2 ⟨gy, stepE_mono hm (fun v a1 h1 q => ?_) (stepE_with hm h4)⟩
          obtain ⟨hu, _, hhold, hK⟩ := q
          refine ⟨Reads.hold_anti (fun z hz => List.mem_cons_of_mem _ hz) hhold, ?_⟩
          exact hR _ _ _ v hu (hhold _ (List.mem_cons_self ..) hwat) (hk _ _ _ _ (fun z hz => hz) hK)
      · obtain ⟨gy, h4⟩ := (doE_un hwy).1 h3
        exact (doE_un hwy).2 ⟨gy, hR _ _ _ _ rfl he (hk _ _ _ _ (fun z hz => hz) h4)⟩
    | a k =>
      obtain ⟨gx, o, f, he, h2⟩ := (doE_a hw hkx).1 hE
      have h3 : ∀ b, h b = none → k.fits b → doE call y W a (hadd h b o) fun W1 a1 h1 => K W1 { a1 with t := put a1.t x.dst (f b) } h1 := fun b hb hB => (doE_put hm hyx hn).1 (h2 b hb hB)
      have hA : ∀ W1 (a1 : A) h1 u, a1.t = put a.t y.dst u → (∀ b, h1 b = none → k.fits b → K' W1 { a1 with t := put a1.t x.dst (f b) } (hadd h1 b o)) → doE call x W1 a1 h1 K' := by
        intro W1 a1 h1 u hu hK
        obtain ⟨g1, g2⟩ := hg a1 u hu gx
        have hops := blind_opds hxy a.t u
        rw [hkx] at hops
        exact (doE_a g2 hkx).2 ⟨g1, o, f, by rw [hu, AK.congr hops]; exact he, hK⟩
      by_cases hwy : wantedE a.t y.guard = true
      · cases hky : y.k with
        | p k2 =>
          obtain ⟨b0, hb0, _, hB0⟩ := hf.pickB [] k
          obtain ⟨gy, vy, he2, _⟩ := (doE_p hwy hky).1 (h3 b0 hb0 hB0)
          refine (doE_p hwy hky).2 ⟨gy, vy, he2, hA _ _ _ vy rfl fun b hb hB => ?_⟩
          obtain ⟨_, vy', he2', h4⟩ := (doE_p hwy hky).1 (h3 b hb hB)
          rw [he2] at he2'; cases he2'
          exact hk _ _ _ _ (fun z hz => hz) h4
        | r k2 =>
          obtain ⟨b0, hb0, hl0, hB0⟩ := hf.pickB (k2.locs (Opd.ev a.t) h) k
          obtain ⟨gy, vy, he2, _⟩ := (doE_r hwy hky).1 (h3 b0 hb0 hB0)
          rw [RK.ev_add hl0] at he2
          refine (doE_r hwy hky).2 ⟨gy, vy, he2, hA _ _ _ vy rfl fun b hb hB => ?_⟩
          obtain ⟨_, vy', he2', h4⟩ := (doE_r hwy hky).1 (h3 b hb hB)
          rw [RK.ev_mono hb he2] at he2'; cases he2'
          exact hk _ _ _ _ (fun z hz => hz) h4
        | a k2 =>
          obtain ⟨b0, hb0, _, hB0⟩ := hf.pickB [] k
          obtain ⟨gy, o2, f2, he2, _⟩ := (doE_a hwy hky).1 (h3 b0 hb0 hB0)
          refine (doE_a hwy hky).2 ⟨gy, o2, f2, he2, fun b2 hb2 hB2 => hA _ _ _ (f2 b2) rfl fun b hb hB => ?_⟩
          have hne : b ≠ b2 := fun e => by subst e; simp [hadd, hset] at hb
          have hb' : h b = none := by rw [hadd_ne hne] at hb; exact hb
          obtain ⟨_, o2', f2', he2', h4⟩ := (doE_a hwy hky).1 (h3 b hb' hB)
          rw [he2] at he2'; cases he2'
          rw [hadd_comm h (Ne.symm hne)]
          exact hk _ _ _ _ (fun z hz => hz) (h4 b2 (by rw [hadd_ne (Ne.symm hne)]; exact hb2) hB2)
        | h k2 =>
          rcases hyh with e | e
          · rw [hky] at e; cases e
          · have := e.1; rw [hkx] at this; cases this
      · obtain ⟨b0, hb0, _, hB0⟩ := hf.pickB [] k
        obtain ⟨gy, _⟩ := (doE_un hwy).1 (h3 b0 hb0 hB0)
        refine (doE_un hwy).2 ⟨gy, hA _ _ _ _ rfl fun b hb hB => ?_⟩
        exact hk _ _ _ _ (fun z hz => hz) ((doE_un hwy).1 (h3 b hb hB)).2
    | h k => rw [hkx] at hxh; cases hxh
  · obtain ⟨gx, h2⟩ := (doE_un hw).1 hE
    refine hS _ (fun W1 a1 h1 hu hK => ?_) h2
    obtain ⟨u, hu⟩ := hu
    obtain ⟨g1, g2⟩ := blind_guard hxy a.t u
    refine (doE_un (by rw [hu, g1]; exact hw)).2 ⟨by rw [hu]; exact g2.2 gx, hK⟩

/-- Told first. -/
theorem front (hm : Mono call) {y : IOp} {post : List IOp} {K : A → H → Prop} : ∀ (pre : List IOp) {W : Reads} {a : A} {h : H}, (∀ x ∈ pre, x.swaps y = true) → Fin h → drawE call (pre ++ y :: post) W a h K →
    doE call y W a h fun W' a' h' => drawE call (pre ++ post) W' a' h' K
  | [], W, a, h, _, _, hE => by rw [List.nil_append, drawE_cons] at hE; exact hE
  | x :: pre, W, a, h, hs, hf, hE => by
    rw [List.cons_append, drawE_cons] at hE
    have hx := hs x (by simp)
    have hxh : x.k.heavy = false := by
      simp only [IOp.swaps, Bool.and_eq_true, Bool.not_eq_true'] at hx; exact hx.1.1
    have h2 : doE call x W a h fun W1 a1 h1 => doE call y W1 a1 h1 fun W2 a2 h2 => drawE call (pre ++ post) W2 a2 h2 K :=
      doE_mono hm (fun W1 a1 h1 q => front hm pre (fun z hz => hs z (by simp [hz])) (q.2.1 hxh hf) q.2.2) (doE_with hm hE)
    have h3 := swap hm hx hf (K' := fun W2 a2 h2 => drawE call (pre ++ post) W2 a2 h2 K) (fun W W' a h hs => drawE_anti hm hs fun _ _ => id) h2
    exact doE_mono hm (fun W1 a1 h1 q => by rw [List.cons_append, drawE_cons]; exact q) h3
end Mir
