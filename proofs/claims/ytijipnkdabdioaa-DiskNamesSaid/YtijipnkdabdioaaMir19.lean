/- The mirror, part 19: regions, on the machine. -/
import Derived.Test.YtijipnkdabdioaaMir15
import Derived.Test.YtijipnkdabdioaaMir18
import Derived.Test.YtijipnkdabdioaaMir35
import Derived.Orders
set_option linter.unusedSimpArgs false
set_option linter.unusedVariables false
namespace Mir
open Go
variable {P : Program} {μ μ' : Mu} {h h' : H} {w w' : World} {n base : Nat} {b : Frame} {act : Act} {k : List Item} {cs : List Frame} {ops : Array Oper} {i : Nat} {rest : List Nat} {o : Oper}

theorem snd_mono : Mono (Snd P) := fun c args h Q Q' hq a => Snd.mono hq a
theorem R.Fin (r : R P μ h w) : Fin h := by
  obtain ⟨N, hN⟩ := r.fin
  refine ⟨N, fun b hb => ?_⟩
  cases e : h b with
  | none => rfl
  | some o => obtain ⟨L, _, e', _⟩ := r.at_ b o e; rw [hN b hb] at e'; cases e'

/-- An operation of the mirror stands for one of the region's. -/
def Fit (P : Program) (n : Nat) (ops : Array Oper) (i : Nat) (io : IOp) : Prop :=
  ∃ o, ops[i]? = some o ∧ io.dst = o.dst ∧ cDst n o.dst = true ∧ cGuard n ops o.guard = some io.guard ∧ (cOp P n o.op = some io.k ∨ io.k = stuckK)
theorem cOper_fit {io : IOp} (ho : ops[i]? = some o) (hc : cOper P n ops o = some io) : Fit P n ops i io := by
  unfold cOper at hc
  split at hc
  · rename_i g hg
    split at hc
    · rename_i hd
      cases hc
      refine ⟨o, ho, rfl, hd, hg, ?_⟩
      cases hk : cOp P n o.op with
      | none => exact .inr rfl
      | some k => exact .inl rfl
    · cases hc
  · cases hc

theorem not_dfr {l : List IOp} (hd : hasDfr l = false) : ∀ io ∈ l, ∀ f a, io.k ≠ .h (.dfr f a) := by
  induction l with
  | nil => simp
  | cons o l ih =>
    simp only [hasDfr, Bool.or_eq_false_iff] at hd
    intro io hio f a e
    rcases List.mem_cons.1 hio with rfl | hio
    · have := hd.1; rw [e] at this; cases this
    · exact ih hd.2 io hio f a e

/-- One operation with its guard, unwanted. -/
theorem step_un {io : IOp} {a : A} (hf : Fit P n ops i io) (s : SR P n base μ a h act w) (hg : guardOk a.t io.guard) (hw : ¬ wantedE a.t io.guard = true) :
    ∃ act', Steps P (lone (b.atR act (.inRegion ops (i :: rest) :: k)) cs w) (lone (b.atR act' (.inRegion ops rest :: k)) cs w) ∧ SR P n base μ { a with t := put a.t io.dst (.tup []) } h act' w := by
  obtain ⟨o, ho, hd, hdn, hgu, hc⟩ := hf
  have hwd := guard_sound s hgu hg
  refine ⟨act.put o.dst Go.undef, .one ?_, by rw [hd]; exact s.put hdn vr_undef⟩
  have := stepR_op_skip (P := P) (b := b) (a := act) (k := k) (cs := cs) (w := w) (ops := ops) (i := i) (rest := rest) (by
    simp only [ho, Option.map_some, Option.getD_some, hwd]
    simpa using hw)
  rw [ho] at this
  exact this
theorem step_wanted {io : IOp} {a : A} {K : V → A → H → Prop} (hf : Fit P n ops i io) (s : SR P n base μ a h act w) (hg : guardOk a.t io.guard) (hw : wantedE a.t io.guard = true)
    (hnd : b.roundOf ≠ none → ∀ f a, io.k ≠ .h (.dfr f a)) (hE : stepE (Snd P) io a h K) :
    ∃ v a' h' act' μ' w', K v a' h' ∧ Steps P (lone (b.atR act (.inRegion ops (i :: rest) :: k)) cs w) (lone (b.atR act' (.inRegion ops rest :: k)) cs w') ∧ St P μ h w μ' h' w' ∧ SR P n base μ' a' h' act' w' := by
  obtain ⟨o, ho, hd, hdn, hgu, hc⟩ := hf
  have hwd := guard_sound s hgu hg
  rcases hc with hc | hc
  · exact step_op ho (hwd.trans hw) hd hdn hc hnd s hE
  · exfalso
    unfold stepE at hE
    rw [hc] at hE
    exact hE
theorem step_do {io : IOp} {W : Reads} {a : A} {K : Reads → A → H → Prop} (hf : Fit P n ops i io) (s : SR P n base μ a h act w)
    (hnd : b.roundOf ≠ none → ∀ f a, io.k ≠ .h (.dfr f a)) (hE : doE (Snd P) io W a h K) :
    ∃ W' a' h' act' μ' w', K W' a' h' ∧ Steps P (lone (b.atR act (.inRegion ops (i :: rest) :: k)) cs w) (lone (b.atR act' (.inRegion ops rest :: k)) cs w') ∧ St P μ h w μ' h' w' ∧ SR P n base μ' a' h' act' w' := by
  by_cases hw : wantedE a.t io.guard = true
  · unfold doE at hE
    obtain ⟨hg, h2⟩ := hE
    rw [if_pos hw] at h2
    split at h2
    · obtain ⟨v, a', h', act', μ', w', hK, r⟩ := step_wanted hf s hg hw hnd h2
      exact ⟨_, a', h', act', μ', w', hK, r⟩
    · obtain ⟨v, a', h', act', μ', w', hK, r⟩ := step_wanted hf s hg hw hnd h2
      exact ⟨_, a', h', act', μ', w', hK.2, r⟩
    · obtain ⟨v, a', h', act', μ', w', hK, r⟩ := step_wanted hf s hg hw hnd h2
      exact ⟨_, a', h', act', μ', w', hK, r⟩
  · obtain ⟨hg, h2⟩ := (doE_un hw).1 hE
    obtain ⟨act', hs, hr⟩ := step_un (b := b) (k := k) (cs := cs) (rest := rest) hf s hg hw
    exact ⟨_, _, _, act', μ, w, h2, hs, St.refl s.rel, hr⟩

/-! ### In order -/
theorem ops_steps : ∀ (l : List IOp) (is : List Nat) {a : A} {h : H} {act : Act} {μ : Mu} {w : World} {K : A → H → Prop}, All2 (Fit P n ops) is l → (b.roundOf ≠ none → ∀ io ∈ l, ∀ f a, io.k ≠ .h (.dfr f a)) → SR P n base μ a h act w → opsE (Snd P) l a h K →
    ∃ a' h' act' μ' w', K a' h' ∧ Steps P (lone (b.atR act (.inRegion ops is :: k)) cs w) (lone (b.atR act' k) cs w') ∧ St P μ h w μ' h' w' ∧ SR P n base μ' a' h' act' w'
  | [], is, a, h, act, μ, w, K, hf, _, s, hE => by
    cases hf
    exact ⟨a, h, act, μ, w, hE, .one stepR_region_end, St.refl s.rel, s⟩
  | io :: l, is, a, h, act, μ, w, K, hf, hnd, s, hE => by
    cases hf with
    | cons hf1 hf2 =>
      simp only [opsE] at hE
      obtain ⟨hg, h2⟩ := hE
      by_cases hw : wantedE a.t io.guard = true
      · rw [if_pos hw] at h2
        obtain ⟨v, a', h', act', μ', w', hK, hs, hst, hr⟩ := step_wanted (b := b) (k := k) (cs := cs) hf1 s hg hw (fun hb => hnd hb io (by simp)) h2
        obtain ⟨a2, h2, act2, μ2, w2, hK2, hs2, hst2, hr2⟩ := ops_steps l _ hf2 (fun hb x hx => hnd hb x (by simp [hx])) hr hK
        exact ⟨a2, h2, act2, μ2, w2, hK2, Steps.trans hs hs2, hst.trans hst2, hr2⟩
      · rw [if_neg hw] at h2
        obtain ⟨act', hs, hr⟩ := step_un (b := b) (k := k) (cs := cs) hf1 s hg hw
        obtain ⟨a2, h2, act2, μ2, w2, hK2, hs2, hst2, hr2⟩ := ops_steps l _ hf2 (fun hb x hx => hnd hb x (by simp [hx])) hr h2
        exact ⟨a2, h2, act2, μ2, w2, hK2, Steps.trans hs hs2, hst2, hr2⟩

/-! ### In any order -/
/-- Each operation's mask tells what its edges tell, through and through. -/
def MaskOk (ops : Array Oper) (M : List Nat) : Prop :=
  ∀ i o, ops[i]? = some o → ∀ j, ordered M j i = true → ∃ e ∈ o.after, Region.binds .any e = true ∧ (j = e.on ∨ ordered M j e.on = true)
def EdgesOk (ops : Array Oper) : Prop := ∀ i o, ops[i]? = some o → ∀ e ∈ o.after, Region.binds .any e = true → e.on < i
def Down (ops : Array Oper) (listed : Array Bool) : Prop :=
  listed.size = ops.size ∧ ∀ i o, ops[i]? = some o → listed.getD i false = true → ∀ e ∈ o.after, Region.binds .any e = true → listed.getD e.on false = true
structure Told (P : Program) (n : Nat) (ops : Array Oper) (M : List Nat) (listed : Array Bool) (told : List IOp) : Prop where
  nodup : (told.map (·.id)).Nodup
  fit : ∀ io ∈ told, io.id < ops.size ∧ listed.getD io.id true = false ∧ Fit P n ops io.id io
  all : ∀ i, i < ops.size → listed.getD i true = false → ∃ io ∈ told, io.id = i
  pairs : told.Pairwise fun x y => ordered M x.id y.id = true ∨ x.swaps y = true ∨ x.lets y = true

theorem listed_down {M : List Nat} {listed : Array Bool} (hM : MaskOk ops M) (hE : EdgesOk ops) (hD : Down ops listed) : ∀ (i : Nat) (j : Nat), listed.getD i false = true → ordered M j i = true → listed.getD j false = true := by
  intro i
  induction i using Nat.strongRecOn with
  | _ i ih =>
    intro j hi hj
    have hlt : i < ops.size := by
      rcases Nat.lt_or_ge i ops.size with h | h
      · exact h
      · rw [← hD.1] at h; simp [Array.getElem?_eq_none h] at hi
    have ho : ops[i]? = some ops[i] := Array.getElem?_eq_getElem hlt
    obtain ⟨e, he, hb, hje⟩ := hM i _ ho j hj
    have hon := hD.2 i _ ho hi e he hb
    rcases hje with rfl | hje
    · exact hon
    · exact ih e.on (hE i _ ho e he hb) j hon hje
theorem ready_down {M : List Nat} {listed : Array Bool} (hM : MaskOk ops M) (hE : EdgesOk ops) (hD : Down ops listed) {i j : Nat} (hr : i ∈ Region.ready .any ops listed) (hj : ordered M j i = true) : listed.getD j false = true := by
  obtain ⟨_, o, ho, hall⟩ := mem_ready.1 hr
  obtain ⟨e, he, hb, hje⟩ := hM i _ ho j hj
  have hon := hall e he hb
  rcases hje with rfl | hje
  · exact hon
  · exact listed_down hM hE hD _ _ hon hje
theorem getD_tf {listed : Array Bool} {i : Nat} (h : i < listed.size) : listed.getD i true = listed.getD i false := by simp [h]
theorem some_ready {listed : Array Bool} (hE : EdgesOk ops) (hD : Down ops listed) : ∀ i, i < ops.size → listed.getD i true = false → Region.ready .any ops listed ≠ [] := by
  intro i
  induction i using Nat.strongRecOn with
  | _ i ih =>
    intro hi hu
    have ho : ops[i]? = some ops[i] := Array.getElem?_eq_getElem hi
    by_cases hall : ∀ e ∈ (ops[i]).after, Region.binds .any e = true → listed.getD e.on false = true
    · intro hnil
      have : i ∈ Region.ready .any ops listed := mem_ready.2 ⟨hu, _, ho, hall⟩
      rw [hnil] at this; cases this
    · simp only [Classical.not_forall] at hall
      obtain ⟨e, he, hb, hne⟩ := hall
      have hlt := hE i _ ho e he hb
      refine ih e.on hlt (by omega) ?_
      rw [getD_tf (by rw [hD.1]; omega)]
      simpa using hne
theorem Told.nil_of {M : List Nat} {listed : Array Bool} {told : List IOp} (hT : Told P n ops M listed told) (hE : EdgesOk ops) (hD : Down ops listed) (hr : Region.ready .any ops listed = []) : told = [] := by
  cases told with
  | nil => rfl
  | cons io l =>
    obtain ⟨h1, h2, _⟩ := hT.fit io (by simp)
    exact absurd hr (some_ready hE hD _ h1 h2)

/-- What the run tells of an operation that may come first: it is ready. -/
theorem ready_run {y : IOp} {post : List IOp} {K : A → H → Prop} (hl : y.k.light = true) : ∀ (pre : List IOp) {W : Reads} {a : A} {h : H} {act : Act} {μ : Mu} {w : World}, (∀ x ∈ pre, x.swaps y = true ∨ x.lets y = true) → (∀ x ∈ pre, Fit P n ops x.id x) →
    (b.roundOf ≠ none → ∀ x ∈ pre, ∀ f a, x.k ≠ .h (.dfr f a)) → SR P n base μ a h act w → drawE (Snd P) (pre ++ y :: post) W a h K → Ready y a
  | [], W, a, h, act, μ, w, _, _, _, _, hE => by rw [List.nil_append, drawE_cons] at hE; exact ready_of hl hE
  | x :: pre, W, a, h, act, μ, w, hs, hF, hnd, s, hE => by
    rw [List.cons_append, drawE_cons] at hE
    obtain ⟨W', a', h', act', μ', w', ⟨⟨u, hu⟩, _, hK⟩, _, _, hr⟩ := step_do (b := b) (k := []) (cs := []) (rest := []) (hF x (by simp)) s (fun hb => hnd hb x (by simp)) (doE_with snd_mono hE)
    have h1 := ready_run hl pre (fun z hz => hs z (by simp [hz])) (fun z hz => hF z (by simp [hz])) (fun hb z hz => hnd hb z (by simp [hz])) hr hK
    exact (Ready.put (lets_apart (hs x (by simp)))).1 (Ready.of_t (a := a') (a' := { a with t := put a.t x.dst u }) hu.symm h1)
theorem draw_steps {M : List Nat} (hM : MaskOk ops M) (hE : EdgesOk ops) {K : A → H → Prop} : ∀ (fuel t : Nat) (listed : Array Bool) (told : List IOp) {W : Reads} {a : A} {h : H} {act : Act} {μ : Mu} {w : World}, told.length ≤ fuel → Told P n ops M listed told → Down ops listed →
    (b.roundOf ≠ none → ∀ io ∈ told, ∀ f a, io.k ≠ .h (.dfr f a)) → SR P n base μ a h act w → drawE (Snd P) told W a h K →
    ∃ a' h' act' μ' w', K a' h' ∧ Steps P (lone (b.atR act (.inRegion ops (Region.linearise.go .any ops fuel t listed []) :: k)) cs w) (lone (b.atR act' k) cs w') ∧ St P μ h w μ' h' w' ∧ SR P n base μ' a' h' act' w' := by
  intro fuel
  induction fuel with
  | zero =>
    intro t listed told W a h act μ w hl hT hD hnd s hd
    have : told = [] := List.length_eq_zero_iff.1 (by omega)
    subst this
    exact ⟨a, h, act, μ, w, hd, .one (by simp only [Region.linearise.go, List.reverse_nil]; exact stepR_region_end), St.refl s.rel, s⟩
  | succ fuel ih =>
    intro t listed told W a h act μ w hl hT hD hnd s hd
    have hgo : Region.linearise.go .any ops (fuel + 1) t listed [] = match (Region.ready .any ops listed)[t % (Region.ready .any ops listed).length]? with
      | some i => Region.linearise.go .any ops fuel (t / (Region.ready .any ops listed).length) (listed.setIfInBounds i true) [i]
      | none => [].reverse := rfl
    cases hi : (Region.ready .any ops listed)[t % (Region.ready .any ops listed).length]? with
    | none =>
      have hnil : Region.ready .any ops listed = [] := by
        cases hr : Region.ready .any ops listed with
        | nil => rfl
        | cons x xs =>
          rw [hr] at hi
          have hlt : t % (x :: xs).length < (x :: xs).length := Nat.mod_lt _ (by simp)
          simp at hi
          simp at hlt
          omega
      have := hT.nil_of hE hD hnil
      subst this
      refine ⟨a, h, act, μ, w, hd, .one ?_, St.refl s.rel, s⟩
      rw [hgo, hi]
      exact stepR_region_end
    | some i =>
      have hir : i ∈ Region.ready .any ops listed := List.mem_of_getElem? hi
      obtain ⟨hun, o, ho, hall⟩ := mem_ready.1 hir
      have hlt : i < ops.size := (Array.getElem?_eq_some_iff.1 ho).1
      obtain ⟨io, hio, hid⟩ := hT.all i hlt hun
      obtain ⟨pre, post, rfl⟩ := List.append_of_mem hio
      have hpw := List.pairwise_append.1 hT.pairs
      have hsw : ∀ x ∈ pre, x.swaps io = true ∨ x.lets io = true := fun x hx => by
        rcases hpw.2.2 x hx io (by simp) with h | h
        · rw [hid] at h
          have h1 := ready_down hM hE hD hir h
          obtain ⟨h2, h3, _⟩ := hT.fit x (by simp [hx])
          rw [getD_tf (by rw [hD.1]; exact h2), h1] at h3
          cases h3
        · exact h
      have hfr : doE (Snd P) io W a h fun W' a' h' => drawE (Snd P) (pre ++ post) W' a' h' K := by
        by_cases hli : io.k.light = true
        · exact front2 pre hsw s.rel.Fin (ready_run (b := b) hli pre hsw (fun x hx => (hT.fit x (by simp [hx])).2.2) (fun hb x hx => hnd hb x (by simp [hx])) s hd) hd
        · exact front snd_mono pre (fun x hx => (hsw x hx).resolve_right fun e => hli (by simp only [IOp.lets, Bool.and_eq_true] at e; exact e.2)) s.rel.Fin hd
      obtain ⟨_, _, hfit⟩ := hT.fit io (by simp)
      rw [hid] at hfit
      obtain ⟨W', a', h', act', μ', w', hK, hs, hst, hr⟩ := step_do (b := b) (k := k) (cs := cs) (rest := Region.linearise.go .any ops fuel (t / (Region.ready .any ops listed).length) (listed.setIfInBounds i true) []) hfit s (fun hb => hnd hb io (by simp)) hfr
      have hnd' := hT.nodup
      rw [List.map_append, List.map_cons] at hnd'
      have hT' : Told P n ops M (listed.setIfInBounds i true) (pre ++ post) := by
        have hsub : (pre ++ post).Sublist (pre ++ io :: post) := List.Sublist.append_left (List.sublist_cons_self _ _) _
        have hne : ∀ x ∈ pre ++ post, x.id ≠ i := by
          have h1 := (List.nodup_append.1 hnd')
          intro x hx e
          rw [← hid] at e
          rcases List.mem_append.1 hx with hx | hx
          · exact h1.2.2 _ (List.mem_map.2 ⟨x, hx, rfl⟩) _ (List.mem_cons_self ..) e
          · exact (List.nodup_cons.1 h1.2.1).1 (e ▸ List.mem_map.2 ⟨x, hx, rfl⟩)
        refine ⟨(hsub.map _).nodup hT.nodup, fun x hx => ?_, fun j hj hu => ?_, hT.pairs.sublist hsub⟩
        · obtain ⟨h1, h2, h3⟩ := hT.fit x (hsub.subset hx)
          exact ⟨h1, by rw [getD_set_ne true (Ne.symm (hne x hx))]; exact h2, h3⟩
        · have hji : i ≠ j := fun e => by
            subst e
            have : i < listed.size := by rw [hD.1]; exact hj
            simp [this] at hu
          rw [getD_set_ne true hji] at hu
          obtain ⟨x, hx, hxj⟩ := hT.all j hj hu
          rcases List.mem_append.1 hx with hx | hx
          · exact ⟨x, List.mem_append_left _ hx, hxj⟩
          · rcases List.mem_cons.1 hx with rfl | hx
            · exact absurd (hid.symm.trans hxj) hji
            · exact ⟨x, List.mem_append_right _ hx, hxj⟩
      have hD' : Down ops (listed.setIfInBounds i true) := by
        refine ⟨by simp [hD.1], fun j oj hoj hl e he hb => getD_set_true ?_⟩
        by_cases hji : i = j
        · subst hji
          rw [ho] at hoj; cases hoj
          exact hall e he hb
        · rw [getD_set_ne false hji] at hl
          exact hD.2 j oj hoj hl e he hb
      obtain ⟨a2, h2, act2, μ2, w2, hK2, hs2, hst2, hr2⟩ := ih (t / (Region.ready .any ops listed).length) (listed.setIfInBounds i true) (pre ++ post) (by simp at hl ⊢; omega) hT' hD' (fun hb x hx => hnd hb x (by
        rcases List.mem_append.1 hx with hx | hx
        · exact List.mem_append_left _ hx
        · exact List.mem_append_right _ (List.mem_cons_of_mem _ hx))) hr hK
      refine ⟨a2, h2, act2, μ2, w2, hK2, ?_, hst.trans hst2, hr2⟩
      rw [hgo, hi]
      simp only
      rw [linearise_go_acc, List.reverse_singleton, List.singleton_append]
      exact Steps.trans hs hs2
end Mir
