import Derived.Test.YtipnnfmgecbefaaGreatDoorMir19
/- The mirror, part 36: string([]byte{c}), told without its block. -/
set_option linter.unusedSimpArgs false
set_option linter.unusedVariables false
namespace Mir
open Go
variable {P : Program} {μ μ' : Mu} {h h' : H} {w w' : World} {n base : Nat} {b : Frame} {act : Act} {k : List Item} {cs : List Frame} {ops : Array Oper} {i : Nat} {rest : List Nat} {o : Oper}
/-- What is told of a temporary may be forgotten. -/
theorem sr_forget {a : A} {t : Nat} {v : V} (s : SR P n base μ { a with t := put a.t (some t) v } h act w) (e : a.t t = .undef) : SR P n base μ a h act w :=
  ⟨s.rel, ⟨s.t.1, fun i => by
    by_cases c : i = t
    · subst c; rw [e]; exact .undef _
    · have := s.t.2 i
      simpa [put, upd, c] using this⟩, s.d⟩
theorem sr_heap {a : A} (s : SR P n base μ a h act w) (r : R P μ h' w) : SR P n base μ a h' act w := ⟨r, s.t, s.d⟩
/-- A read: neither memory nor the world turns. -/
theorem step_read {io : IOp} {a : A} {kk : RK} {v : V} (hf : Fit P n ops i io) (hk : io.k = .r kk) (s : SR P n base μ a h act w) (hg : guardOk a.t io.guard) (hw : wantedE a.t io.guard = true) (he : kk.ev (Opd.ev a.t) h = some v) :
    ∃ act', Steps P (lone (b.atR act (.inRegion ops (i :: rest) :: k)) cs w) (lone (b.atR act' (.inRegion ops rest :: k)) cs w) ∧ SR P n base μ { a with t := put a.t io.dst v } h act' w := by
  obtain ⟨o, ho, hd, hdn, hgu, hc⟩ := hf
  have hwd := guard_sound s hgu hg
  rcases hc with hc | hc
  · rw [hk] at hc
    obtain ⟨d, hv, hr⟩ := rk_sound (w := w) hc s.rho s.rel he o rfl (fun f => rfl)
    refine ⟨act.put o.dst d, .one (step_val ho (hwd.trans hw) (not_defer hc (by intro f a e; cases e)) hr (.inl rfl)), ?_⟩
    rw [hd]
    exact s.put hdn hv
  · rw [hk] at hc; cases hc

/-- What is told, whatever is asked of each operation. -/
structure ToldX (F : IOp → Prop) (ops : Array Oper) (M : List Nat) (listed : Array Bool) (told : List IOp) : Prop where
  nodup : (told.map (·.id)).Nodup
  fit : ∀ io ∈ told, io.id < ops.size ∧ listed.getD io.id true = false ∧ F io
  all : ∀ i, i < ops.size → listed.getD i true = false → ∃ io ∈ told, io.id = i
  pairs : told.Pairwise fun x y => ordered M x.id y.id = true ∨ x.swaps y = true ∨ x.lets y = true
section
variable {F : IOp → Prop} {M : List Nat} {listed : Array Bool} {pre post : List IOp} {io : IOp}
theorem ToldX.next (hT : ToldX F ops M listed (pre ++ io :: post)) (hD : Down ops listed) (ho : ops[io.id]? = some o) (hall : ∀ e ∈ o.after, Region.binds .any e = true → listed.getD e.on false = true) :
    ToldX F ops M (listed.setIfInBounds io.id true) (pre ++ post) ∧ Down ops (listed.setIfInBounds io.id true) := by
  have hnd' := hT.nodup
  rw [List.map_append, List.map_cons] at hnd'
  have hsub : (pre ++ post).Sublist (pre ++ io :: post) := List.Sublist.append_left (List.sublist_cons_self _ _) _
  have hne : ∀ x ∈ pre ++ post, x.id ≠ io.id := by
    have h1 := (List.nodup_append.1 hnd')
    intro x hx e
    rcases List.mem_append.1 hx with hx | hx
    · exact h1.2.2 _ (List.mem_map.2 ⟨x, hx, rfl⟩) _ (List.mem_cons_self ..) e
    · exact (List.nodup_cons.1 h1.2.1).1 (e ▸ List.mem_map.2 ⟨x, hx, rfl⟩)
  refine ⟨⟨(hsub.map _).nodup hT.nodup, fun x hx => ?_, fun j hj hu => ?_, hT.pairs.sublist hsub⟩, by simp [hD.1], fun j oj hoj hl e he hb => getD_set_true ?_⟩
  · obtain ⟨h1, h2, h3⟩ := hT.fit x (hsub.subset hx)
    exact ⟨h1, by rw [getD_set_ne true (Ne.symm (hne x hx))]; exact h2, h3⟩
  · have hji : io.id ≠ j := fun e => by
      subst e
      have : io.id < listed.size := by rw [hD.1]; exact hj
      simp [this] at hu
    rw [getD_set_ne true hji] at hu
    obtain ⟨x, hx, hxj⟩ := hT.all j hj hu
    rcases List.mem_append.1 hx with hx | hx
    · exact ⟨x, List.mem_append_left _ hx, hxj⟩
    · rcases List.mem_cons.1 hx with rfl | hx
      · exact absurd hxj hji
      · exact ⟨x, List.mem_append_right _ hx, hxj⟩
  · by_cases hji : io.id = j
    · subst hji
      rw [ho] at hoj; cases hoj
      exact hall e he hb
    · rw [getD_set_ne false hji] at hl
      exact hD.2 j oj hoj hl e he hb
theorem ToldX.ahead (hT : ToldX F ops M listed (pre ++ io :: post)) (hM : MaskOk ops M) (hE : EdgesOk ops) (hD : Down ops listed) (hir : io.id ∈ Region.ready .any ops listed) : ∀ x ∈ pre, x.swaps io = true ∨ x.lets io = true := fun x hx => by
  rcases (List.pairwise_append.1 hT.pairs).2.2 x hx io (by simp) with h | h
  · have h1 := ready_down hM hE hD hir h
    obtain ⟨h2, h3, _⟩ := hT.fit x (by simp [hx])
    rw [getD_tf (by rw [hD.1]; exact h2), h1] at h3
    cases h3
  · exact h
end

/-- An operation of the region, or one that is told as a byte's text. -/
def FitX (P : Program) (n : Nat) (ops : Array Oper) (io : IOp) : Prop := Fit P n ops io.id io ∨ (∃ c y, io.k = .p (.byteStr c y)) ∧ cDst n io.dst = true
theorem byteStr_ev {c : Bool} {y : Opd} {ρ : Opd → V} {v : V} (e : (PK.byteStr c y).ev ρ = some v) : ∃ m, ρ y = .int .u8 m ∧ v = if c then .str [UInt8.ofNat m.toNat] else .undef := by
  simp only [PK.ev] at e
  split at e
  · cases e; exact ⟨_, ‹_›, rfl⟩
  · cases e
theorem ready_runX {y : IOp} {post : List IOp} {K : A → H → Prop} (hl : y.k.light = true) : ∀ (pre : List IOp) {W : Reads} {a : A} {h : H} {act : Act} {μ : Mu} {w : World}, (∀ x ∈ pre, x.swaps y = true ∨ x.lets y = true) → (∀ x ∈ pre, FitX P n ops x) →
    (b.roundOf ≠ none → ∀ x ∈ pre, ∀ f a, x.k ≠ .h (.dfr f a)) → SR P n base μ a h act w → drawE (Snd P) (pre ++ y :: post) W a h K → Ready y a
  | [], W, a, h, act, μ, w, _, _, _, _, hE => by rw [List.nil_append, drawE_cons] at hE; exact ready_of hl hE
  | x :: pre, W, a, h, act, μ, w, hs, hF, hnd, s, hE => by
    rw [List.cons_append, drawE_cons] at hE
    rcases hF x (by simp) with hf | ⟨⟨c, z, hk⟩, hd⟩
    · obtain ⟨W', a', h', act', μ', w', ⟨⟨u, hu⟩, _, hK⟩, _, _, hr⟩ := step_do (b := b) (k := []) (cs := []) (rest := []) hf s (fun hb => hnd hb x (by simp)) (doE_with snd_mono hE)
      have h1 := ready_runX hl pre (fun z hz => hs z (by simp [hz])) (fun z hz => hF z (by simp [hz])) (fun hb z hz => hnd hb z (by simp [hz])) hr hK
      exact (Ready.put (lets_apart (hs x (by simp)))).1 (Ready.of_t (a := a') (a' := { a with t := put a.t x.dst u }) hu.symm h1)
    · by_cases hw : wantedE a.t x.guard = true
      · obtain ⟨_, v, e, hK⟩ := (doE_p hw hk).1 hE
        obtain ⟨d, hv⟩ : ∃ d, VR μ v d := by
          obtain ⟨m, _, rfl⟩ := byteStr_ev e
          cases c
          · exact ⟨Go.undef, .undef _⟩
          · exact ⟨_, .str _⟩
        have h1 := ready_runX hl pre (fun z hz => hs z (by simp [hz])) (fun z hz => hF z (by simp [hz])) (fun hb z hz => hnd hb z (by simp [hz])) (s.put hd hv) hK
        exact (Ready.put (lets_apart (hs x (by simp)))).1 h1
      · obtain ⟨_, hK⟩ := (doE_un hw).1 hE
        have h1 := ready_runX hl pre (fun z hz => hs z (by simp [hz])) (fun z hz => hF z (by simp [hz])) (fun hb z hz => hnd hb z (by simp [hz])) (s.put hd vr_undef) hK
        exact (Ready.put (lets_apart (hs x (by simp)))).1 h1

/-! ### The two that are told as one -/
section
variable (P) (n) (ops) (M : List Nat) (i j t : Nat) (x : Opd) (g : Option (Nat × Bool))
def FitF (io : IOp) : Prop := fuseOk M i j t x g io = true ∧
  ((io.id = j ∧ io.k = .p (.byteStr false x) ∧ io.guard = g ∧ io.dst = some t ∧ Fit P n ops j { io with k := .a (.mkSl [.int .u8 0] 1 1 [(0, 1, x)]) }) ∨
   (io.id = i ∧ io.k = .p (.byteStr true x) ∧ io.guard = g ∧ Fit P n ops i { io with k := .r (.toStr (.tmp t)) }) ∨
   (io.id ≠ i ∧ io.id ≠ j ∧ Fit P n ops io.id io))
def Inv1 (base : Nat) (μ : Mu) (a : A) (h : H) (act : Act) (w : World) : Prop :=
  (∃ bb m, h bb = none ∧ a.t t = .undef ∧ Opd.ev a.t x = .int .u8 m ∧ wantedE a.t g = true ∧ SR P n base μ { a with t := put a.t (some t) (.sl bb 0 1 1) } (hadd h bb (.cells [.int .u8 m] false)) act w) ∨
  (wantedE a.t g = false ∧ SR P n base μ a h act w)
end
section
variable {M : List Nat} {i j t : Nat} {x : Opd} {g : Option (Nat × Bool)} {a : A} {io : IOp}
theorem Inv1.sr (I : Inv1 P n t x g base μ a h act w) : SR P n base μ a h act w := by
  rcases I with ⟨bb, m, hb, hu, _, _, s⟩ | ⟨_, s⟩
  · exact sr_heap (sr_forget s hu) (s.rel.sub (sub_hadd hb))
  · exact s
theorem fit_dst (f : Fit P n ops i io) : cDst n io.dst = true := by
  obtain ⟨o, _, hd, hdn, _⟩ := f
  rw [hd]; exact hdn
theorem FitF.fitX (f : FitF P n ops M i j t x g io) : FitX P n ops io := by
  rcases f.2 with ⟨_, hk, _, _, f⟩ | ⟨_, hk, _, f⟩ | ⟨_, _, f⟩
  · exact .inr ⟨⟨_, _, hk⟩, by have e := fit_dst f; exact e⟩
  · exact .inr ⟨⟨_, _, hk⟩, by have e := fit_dst f; exact e⟩
  · exact .inl f
theorem FitF.looks (f : FitF P n ops M i j t x g io) : io.blind (some t) := by
  intro y e
  cases e
  have := f.1
  simp only [fuseOk, Bool.and_eq_true, Bool.not_eq_true'] at this
  intro hm
  have h1 := this.1
  rw [List.contains_iff_mem.2 hm] at h1
  cases h1
theorem FitF.apart (f : FitF P n ops M i j t x g io) (hj : io.id ≠ j) : io.dst ≠ some t ∧ (ordered M io.id j = true ∨ ∀ d, io.dst = some d → tmpOf x ≠ some d ∧ ∀ y c, g = some (y, c) → y ≠ d) := by
  have := f.1
  simp only [fuseOk, Bool.and_eq_true, Bool.or_eq_true, beq_iff_eq, bne_iff_ne] at this
  rcases this.2 with e | ⟨h1, h2⟩
  · exact absurd e hj
  · refine ⟨h1, h2.imp id fun h2 d hd => ?_⟩
    rw [hd] at h2
    simp only [Bool.and_eq_true, bne_iff_ne] at h2
    refine ⟨h2.1, fun y c e => ?_⟩
    have := h2.2
    rw [e] at this
    simpa using this
theorem keep_x {d : Option Nat} {v : V} {tm : Tm} (hd : ∀ z, d = some z → tmpOf x ≠ some z) : Opd.ev (put tm d v) x = Opd.ev tm x := by
  cases d with
  | none => rfl
  | some d =>
    cases x with
    | tmp y =>
      have : y ≠ d := fun e => hd d rfl (by simp [tmpOf, e])
      simp [Opd.ev, put, upd, this]
    | _ => rfl
theorem keep_g {d : Option Nat} {v : V} {tm : Tm} (hd : ∀ z, d = some z → ∀ y c, g = some (y, c) → y ≠ z) : wantedE (put tm d v) g = wantedE tm g := by
  cases d with
  | none => rfl
  | some d =>
    cases g with
    | none => rfl
    | some yc =>
      obtain ⟨y, c⟩ := yc
      have : y ≠ d := hd d rfl y c rfl
      simp [wantedE, put, upd, this]
theorem put_t {d : Option Nat} {v : V} {tm : Tm} (hd : d ≠ some t) : put tm d v t = tm t := by
  cases d with
  | none => rfl
  | some d =>
    have : t ≠ d := fun e => hd (by rw [e])
    simp [put, upd, this]
theorem getD_ft {listed : Array Bool} {i : Nat} (h : listed.getD i true = false) : listed.getD i false = false := by
  rcases Nat.lt_or_ge i listed.size with hi | hi
  · rw [getD_tf hi] at h; exact h
  · simp [hi]

theorem linearise_one {fuel tt : Nat} {listed : Array Bool} (hi : (Region.ready .any ops listed)[tt % (Region.ready .any ops listed).length]? = some i) :
    Region.linearise.go .any ops (fuel + 1) tt listed [] = i :: Region.linearise.go .any ops fuel (tt / (Region.ready .any ops listed).length) (listed.setIfInBounds i true) [] := by
  have hgo : Region.linearise.go .any ops (fuel + 1) tt listed [] = match (Region.ready .any ops listed)[tt % (Region.ready .any ops listed).length]? with
    | some i => Region.linearise.go .any ops fuel (tt / (Region.ready .any ops listed).length) (listed.setIfInBounds i true) [i]
    | none => [].reverse := rfl
  rw [hgo, hi]
  simp only
  rw [linearise_go_acc, List.reverse_singleton, List.singleton_append]
theorem some_next {tt : Nat} {listed : Array Bool} (h : Region.ready .any ops listed ≠ []) : ∃ i, (Region.ready .any ops listed)[tt % (Region.ready .any ops listed).length]? = some i ∧ i ∈ Region.ready .any ops listed := by
  have hlt : tt % (Region.ready .any ops listed).length < (Region.ready .any ops listed).length := Nat.mod_lt _ (List.length_pos_iff.2 h)
  exact ⟨_, List.getElem?_eq_getElem hlt, List.getElem_mem hlt⟩

/-- An operation that the machine takes is told first. -/
theorem take_front {listed : Array Bool} {told : List IOp} {W : Reads} {K : A → H → Prop} {y : Nat} (hM : MaskOk ops M) (hE : EdgesOk ops) (hT : ToldX (FitF P n ops M i j t x g) ops M listed told) (hD : Down ops listed)
    (hnd : b.roundOf ≠ none → ∀ io ∈ told, ∀ f a, io.k ≠ .h (.dfr f a)) (s : SR P n base μ a h act w) (hir : y ∈ Region.ready .any ops listed) (hd : drawE (Snd P) told W a h K) :
    ∃ io pre post, io.id = y ∧ told = pre ++ io :: post ∧ y < ops.size ∧ listed.getD y false = false ∧ FitF P n ops M i j t x g io ∧ (b.roundOf ≠ none → ∀ f a, io.k ≠ .h (.dfr f a)) ∧
      (doE (Snd P) io W a h fun W' a' h' => drawE (Snd P) (pre ++ post) W' a' h' K) ∧
      ToldX (FitF P n ops M i j t x g) ops M (listed.setIfInBounds y true) (pre ++ post) ∧ Down ops (listed.setIfInBounds y true) ∧ (b.roundOf ≠ none → ∀ io ∈ pre ++ post, ∀ f a, io.k ≠ .h (.dfr f a)) := by
  obtain ⟨hun, o, ho, hall⟩ := mem_ready.1 hir
  have hlt : y < ops.size := (Array.getElem?_eq_some_iff.1 ho).1
  obtain ⟨io, hio, rfl⟩ := hT.all y hlt hun
  obtain ⟨pre, post, rfl⟩ := List.append_of_mem hio
  have hsw := hT.ahead hM hE hD hir
  obtain ⟨h1, h2⟩ := hT.next hD ho hall
  refine ⟨io, pre, post, rfl, rfl, hlt, getD_ft hun, (hT.fit io (by simp)).2.2, fun hb => hnd hb io (by simp), ?_, h1, h2, fun hb z hz => hnd hb z (by
    rcases List.mem_append.1 hz with hz | hz
    · exact List.mem_append_left _ hz
    · exact List.mem_append_right _ (List.mem_cons_of_mem _ hz))⟩
  by_cases hli : io.k.light = true
  · exact front2 pre hsw s.rel.Fin (ready_runX (b := b) hli pre hsw (fun x hx => (hT.fit x (by simp [hx])).2.2.fitX) (fun hb x hx => hnd hb x (by simp [hx])) s hd) hd
  · exact front snd_mono pre (fun x hx => (hsw x hx).resolve_right fun e => hli (by simp only [IOp.lets, Bool.and_eq_true] at e; exact e.2)) s.rel.Fin hd

abbrev Came (P : Program) (n base : Nat) (b : Frame) (k : List Item) (cs : List Frame) (ops : Array Oper) (is : List Nat) (μ : Mu) (h : H) (act : Act) (w : World) (K : A → H → Prop) : Prop :=
  ∃ a' h' act' μ' w', K a' h' ∧ Steps P (lone (b.atR act (.inRegion ops is :: k)) cs w) (lone (b.atR act' k) cs w') ∧ St P μ h w μ' h' w' ∧ SR P n base μ' a' h' act' w'

theorem getD_set_self {listed : Array Bool} {y : Nat} (h : y < listed.size) : (listed.setIfInBounds y true).getD y false = true := by simp [h]
/-- The bytes were made; they are still to be read. -/
theorem fuse1 (hM : MaskOk ops M) (hE : EdgesOk ops) (hi : i < ops.size) {K : A → H → Prop} : ∀ (fuel tt : Nat) (listed : Array Bool) (told : List IOp) {W : Reads} {a : A} {h : H} {act : Act} {μ : Mu} {w : World}, told.length ≤ fuel → ToldX (FitF P n ops M i j t x g) ops M listed told → Down ops listed →
    listed.getD j false = true → listed.getD i true = false →
    (b.roundOf ≠ none → ∀ io ∈ told, ∀ f a, io.k ≠ .h (.dfr f a)) → Inv1 P n t x g base μ a h act w → drawE (Snd P) told W a h K →
    Came P n base b k cs ops (Region.linearise.go .any ops fuel tt listed []) μ h act w K := by
  intro fuel
  induction fuel with
  | zero =>
    intro tt listed told W a h act μ w hl hT hD hlj hli hnd I hd
    have : told = [] := List.length_eq_zero_iff.1 (by omega)
    subst this
    obtain ⟨_, h1, _⟩ := hT.all i hi hli
    cases h1
  | succ fuel ih =>
    intro tt listed told W a h act μ w hl hT hD hlj hli hnd I hd
    obtain ⟨y, hy, hir⟩ := some_next (tt := tt) (some_ready hE hD i hi hli)
    obtain ⟨io, pre, post, rfl, rfl, hlt, hun, hF, hnd1, hfr, hT', hD', hnd'⟩ := take_front (b := b) hM hE hT hD hnd I.sr hir hd
    have hlen : (pre ++ post).length ≤ fuel := by simp at hl ⊢; omega
    have hsz : io.id < listed.size := by rw [hD.1]; exact hlt
    have hidj : io.id ≠ j := fun e => by rw [e, hlj] at hun; cases hun
    obtain ⟨hdt, hap⟩ := hF.apart hidj
    have hap : ∀ d, io.dst = some d → tmpOf x ≠ some d ∧ ∀ y c, g = some (y, c) → y ≠ d := hap.resolve_left fun e => by
      have := listed_down hM hE hD _ _ hlj e
      rw [this] at hun; cases hun
    have hlj' : (listed.setIfInBounds io.id true).getD j false = true := getD_set_true hlj
    rw [linearise_one hy]
    rcases hF.2 with ⟨e, _⟩ | ⟨hid, hk, hg, hfit⟩ | ⟨hid, _, hfit⟩
    · exact absurd e hidj
    · -- the read
      have hfit : Fit P n ops io.id { io with k := .r (.toStr (.tmp t)) } := by rw [hid]; exact hfit
      have hrest : Told P n ops M (listed.setIfInBounds io.id true) (pre ++ post) := ⟨hT'.nodup, fun z hz => by
        obtain ⟨h1, h2, h3⟩ := hT'.fit z hz
        refine ⟨h1, h2, ?_⟩
        rcases h3.2 with ⟨e, _⟩ | ⟨e, _⟩ | ⟨_, _, f⟩
        · rw [e] at h2; rw [getD_ft h2] at hlj'; cases hlj'
        · have := getD_set_self hsz
          rw [e, ← hid] at h2; rw [getD_ft h2] at this; cases this
        · exact f, hT'.all, hT'.pairs⟩
      by_cases hw : wantedE a.t io.guard = true
      · obtain ⟨hok, v, hv, hK⟩ := (doE_p hw hk).1 hfr
        obtain ⟨m, hx, rfl⟩ := byteStr_ev hv
        simp only [if_true] at hv hK
        rcases I with ⟨bb, m', hb, hu, hx', hwg, s⟩ | ⟨hwg, _⟩
        · rw [hx] at hx'; cases hx'
          obtain ⟨g1, g2⟩ := blind_guard hF.looks a.t (.sl bb 0 1 1)
          have hev : (RK.toStr (.tmp t)).ev (Opd.ev (put a.t (some t) (.sl bb 0 1 1))) (hadd h bb (.cells [.int .u8 m] false)) = some (.str [UInt8.ofNat m.toNat]) := by
            simp [RK.ev, Opd.ev, put, upd, hadd, hset, bytesOf]
          obtain ⟨act', hs, hr⟩ := step_read (b := b) (k := k) (cs := cs) (rest := Region.linearise.go .any ops fuel (tt / (Region.ready .any ops listed).length) (listed.setIfInBounds io.id true) []) (io := { io with k := .r (.toStr (.tmp t)) }) hfit rfl s (g2.2 hok) (by rw [← hw]; exact g1) hev
          have hr1 : SR P n base μ { ({ a with t := put a.t io.dst (.str [UInt8.ofNat m.toNat]) } : A) with t := put (put a.t io.dst (.str [UInt8.ofNat m.toNat])) (some t) (.sl bb 0 1 1) } (hadd h bb (.cells [.int .u8 m] false)) act' w := by
            rw [← put_comm a.t (d := some t) (e := io.dst) (fun z e e' => hdt (by rw [e', e]))]
            exact hr
          have hr2 : SR P n base μ { a with t := put a.t io.dst (.str [UInt8.ofNat m.toNat]) } h act' w := sr_heap (sr_forget hr1 (by simp only; rw [put_t hdt]; exact hu)) (s.rel.sub (sub_hadd hb))
          obtain ⟨a2, h2, act2, μ2, w2, hK2, hs2, hst2, hr2⟩ := draw_steps (b := b) (k := k) (cs := cs) hM hE fuel _ _ _ hlen hrest hD' hnd' hr2 hK
          exact ⟨a2, h2, act2, μ2, w2, hK2, Steps.trans hs hs2, hst2, hr2⟩
        · rw [hg, hwg] at hw; cases hw
      · obtain ⟨hok, hK⟩ := (doE_un hw).1 hfr
        obtain ⟨act', hs, hr⟩ := step_un (b := b) (k := k) (cs := cs) (rest := Region.linearise.go .any ops fuel (tt / (Region.ready .any ops listed).length) (listed.setIfInBounds io.id true) []) (io := { io with k := .r (.toStr (.tmp t)) }) hfit I.sr hok hw
        obtain ⟨a2, h2, act2, μ2, w2, hK2, hs2, hst2, hr2⟩ := draw_steps (b := b) (k := k) (cs := cs) hM hE fuel _ _ _ hlen hrest hD' hnd' hr hK
        exact ⟨a2, h2, act2, μ2, w2, hK2, Steps.trans hs hs2, hst2, hr2⟩
    · -- another
      have hli' : (listed.setIfInBounds io.id true).getD i true = false := by rw [getD_set_ne true hid]; exact hli
      rcases I with ⟨bb, m, hb, hu, hx, hwg, s⟩ | ⟨hwg, s⟩
      · have hE2 : doE (Snd P) io W { a with t := put a.t (some t) (.sl bb 0 1 1) } h fun W' a2 h' => ∃ a', a2 = { a' with t := put a'.t (some t) (.sl bb 0 1 1) } ∧ (∃ u, a'.t = put a.t io.dst u) ∧ drawE (Snd P) (pre ++ post) W' a' h' K :=
          (doE_put snd_mono hF.looks (fun z e e' => hdt (by rw [e', ← e]))).2 (doE_mono snd_mono (fun W1 a1 h1 q => ⟨a1, rfl, q.1, q.2.2⟩) (doE_with snd_mono hfr))
        obtain ⟨W', a2, h', act', μ', w', ⟨a', rfl, ⟨u, hu'⟩, hK⟩, hs, hst, hr⟩ := step_do (b := b) (k := k) (cs := cs) (rest := Region.linearise.go .any ops fuel (tt / (Region.ready .any ops listed).length) (listed.setIfInBounds io.id true) []) hfit (sr_heap s (s.rel.sub (sub_hadd hb))) hnd1 hE2
        obtain ⟨hb', st'⟩ := hst.frame hb s.rel
        obtain ⟨a3, h3, act3, μ3, w3, hK3, hs3, hst3, hr3⟩ := ih _ _ _ hlen hT' hD' hlj' hli' hnd' (.inl ⟨bb, m, hb', by rw [hu', put_t hdt]; exact hu, by rw [hu', keep_x fun z e => (hap z e).1]; exact hx, by rw [hu', keep_g fun z e => (hap z e).2]; exact hwg, sr_heap hr st'.rel⟩) hK
        exact ⟨a3, h3, act3, μ3, w3, hK3, Steps.trans hs hs3, hst.trans hst3, hr3⟩
      · obtain ⟨W', a', h', act', μ', w', ⟨⟨u, hu'⟩, _, hK⟩, hs, hst, hr⟩ := step_do (b := b) (k := k) (cs := cs) (rest := Region.linearise.go .any ops fuel (tt / (Region.ready .any ops listed).length) (listed.setIfInBounds io.id true) []) hfit s hnd1 (doE_with snd_mono hfr)
        obtain ⟨a3, h3, act3, μ3, w3, hK3, hs3, hst3, hr3⟩ := ih _ _ _ hlen hT' hD' hlj' hli' hnd' (.inr ⟨by rw [hu', keep_g fun z e => (hap z e).2]; exact hwg, hr⟩) hK
        exact ⟨a3, h3, act3, μ3, w3, hK3, Steps.trans hs hs3, hst.trans hst3, hr3⟩

/-- The bytes are still to be made. -/
theorem fuse0 (hM : MaskOk ops M) (hE : EdgesOk ops) (hi : i < ops.size) (hj : j < ops.size) (hij : i ≠ j) (hji : ordered M j i = true) {K : A → H → Prop} : ∀ (fuel tt : Nat) (listed : Array Bool) (told : List IOp) {W : Reads} {a : A} {h : H} {act : Act} {μ : Mu} {w : World}, told.length ≤ fuel → ToldX (FitF P n ops M i j t x g) ops M listed told → Down ops listed →
    listed.getD j true = false → 
    (b.roundOf ≠ none → ∀ io ∈ told, ∀ f a, io.k ≠ .h (.dfr f a)) → SR P n base μ a h act w → drawE (Snd P) told W a h K →
    Came P n base b k cs ops (Region.linearise.go .any ops fuel tt listed []) μ h act w K := by
  intro fuel
  induction fuel with
  | zero =>
    intro tt listed told W a h act μ w hl hT hD hlj hnd s hd
    have : told = [] := List.length_eq_zero_iff.1 (by omega)
    subst this
    obtain ⟨_, h1, _⟩ := hT.all j hj hlj
    cases h1
  | succ fuel ih =>
    intro tt listed told W a h act μ w hl hT hD hlj hnd s hd
    obtain ⟨y, hy, hir⟩ := some_next (tt := tt) (some_ready hE hD j hj hlj)
    obtain ⟨io, pre, post, rfl, rfl, hlt, hun, hF, hnd1, hfr, hT', hD', hnd'⟩ := take_front (b := b) hM hE hT hD hnd s hir hd
    have hlen : (pre ++ post).length ≤ fuel := by simp at hl ⊢; omega
    have hsz : io.id < listed.size := by rw [hD.1]; exact hlt
    have hili : listed.getD i true = false := by
      rw [getD_tf (by rw [hD.1]; exact hi)]
      cases e : listed.getD i false with
      | false => rfl
      | true => have := listed_down hM hE hD _ _ e hji; rw [getD_ft hlj] at this; cases this
    rw [linearise_one hy]
    rcases hF.2 with ⟨hid, hk, hg, hdst, hfit⟩ | ⟨hid, _⟩ | ⟨hid, hidj, hfit⟩
    · -- the bytes are made
      have hfit : Fit P n ops io.id { io with k := .a (.mkSl [.int .u8 0] 1 1 [(0, 1, x)]) } := by rw [hid]; exact hfit
      have hlj' : (listed.setIfInBounds io.id true).getD j false = true := by rw [← hid]; exact getD_set_self hsz
      have hli' : (listed.setIfInBounds io.id true).getD i true = false := by rw [getD_set_ne true (by rw [hid]; exact Ne.symm hij)]; exact hili
      have hbl := hF.looks
      by_cases hw : wantedE a.t io.guard = true
      · obtain ⟨hok, v, hv, hK⟩ := (doE_p hw hk).1 hfr
        obtain ⟨m, hx, rfl⟩ := byteStr_ev hv
        simp only [if_false, Bool.false_eq_true] at hv hK
        have hsE : stepE (Snd P) { io with k := .a (.mkSl [.int .u8 0] 1 1 [(0, 1, x)]) } a h fun v a' h' => ∃ bb, h bb = none ∧ a' = { a with t := put a.t (some t) (.sl bb 0 1 1) } ∧ h' = hadd h bb (.cells [.int .u8 m] false) := by
          simp only [stepE, AK.ev, fillIn, hx, V.cells, zeros, List.replicate, List.flatten, List.append_nil, List.length_cons, List.length_nil]
          simp only [V.flat, List.all_cons, List.all_nil, Bool.and_self, and_self, Nat.zero_add, Nat.le_refl, if_true, List.take_zero, List.nil_append, List.drop_succ_cons, List.drop_zero, List.append_nil, Option.map_some]
          exact fun bb hb _ => ⟨bb, hb, by rw [hdst], rfl⟩
        obtain ⟨v, a', h', act', μ', w', ⟨bb, hb, rfl, rfl⟩, hs, hst, hr⟩ := step_wanted (b := b) (k := k) (cs := cs) (rest := Region.linearise.go .any ops fuel (tt / (Region.ready .any ops listed).length) (listed.setIfInBounds io.id true) []) (io := { io with k := .a (.mkSl [.int .u8 0] 1 1 [(0, 1, x)]) }) hfit s hok hw (fun _ f a e => by cases e) hsE
        have hI : Inv1 P n t x g base μ' { a with t := put a.t io.dst .undef } h act' w' := by
          refine .inl ⟨bb, m, hb, by simp [hdst, put, upd], ?_, ?_, ?_⟩
          · have := blind_opds hbl a.t .undef x (by rw [hk]; simp [Kind.opds, PK.opds])
            simp only [hdst]
            rw [this]; exact hx
          · rw [← hg, hdst]
            exact ((blind_guard hbl a.t .undef).1).trans hw
          · have : put (put a.t io.dst .undef) (some t) (.sl bb 0 1 1) = put a.t (some t) (.sl bb 0 1 1) := by
              rw [hdst]; funext z; simp only [put, upd]; split <;> rfl
            simp only [this]
            exact hr
        obtain ⟨a3, h3, act3, μ3, w3, hK3, hs3, hst3, hr3⟩ := fuse1 (b := b) (k := k) (cs := cs) hM hE hi fuel _ _ _ hlen hT' hD' hlj' hli' hnd' hI hK
        exact ⟨a3, h3, act3, μ3, w3, hK3, Steps.trans hs hs3, (hst.sub (sub_hadd hb)).trans hst3, hr3⟩
      · obtain ⟨hok, hK⟩ := (doE_un hw).1 hfr
        obtain ⟨act', hs, hr⟩ := step_un (b := b) (k := k) (cs := cs) (rest := Region.linearise.go .any ops fuel (tt / (Region.ready .any ops listed).length) (listed.setIfInBounds io.id true) []) (io := { io with k := .a (.mkSl [.int .u8 0] 1 1 [(0, 1, x)]) }) hfit s hok hw
        have hI : Inv1 P n t x g base μ { a with t := put a.t io.dst (.tup []) } h act' w := by
          refine .inr ⟨?_, hr⟩
          rw [← hg, hdst]
          have := (blind_guard hbl a.t (.tup [])).1
          simp only [this]
          simpa using hw
        obtain ⟨a3, h3, act3, μ3, w3, hK3, hs3, hst3, hr3⟩ := fuse1 (b := b) (k := k) (cs := cs) hM hE hi fuel _ _ _ hlen hT' hD' hlj' hli' hnd' hI hK
        exact ⟨a3, h3, act3, μ3, w3, hK3, Steps.trans hs hs3, hst3, hr3⟩
    · exfalso
      have := ready_down hM hE hD hir (by rw [hid]; exact hji)
      rw [getD_ft hlj] at this; cases this
    · obtain ⟨W', a', h', act', μ', w', hK, hs, hst, hr⟩ := step_do (b := b) (k := k) (cs := cs) (rest := Region.linearise.go .any ops fuel (tt / (Region.ready .any ops listed).length) (listed.setIfInBounds io.id true) []) hfit s hnd1 hfr
      obtain ⟨a3, h3, act3, μ3, w3, hK3, hs3, hst3, hr3⟩ := ih _ _ _ hlen hT' hD' (by rw [getD_set_ne true hidj]; exact hlj) hnd' hr hK
      exact ⟨a3, h3, act3, μ3, w3, hK3, Steps.trans hs hs3, hst.trans hst3, hr3⟩
end

/-! ### What has been checked -/
theorem findMk_spec {t j : Nat} {x : Opd} : ∀ {l : List IOp} {s : Nat}, findMk l t s = some (j, x) → ∃ m o, j = s + m ∧ l[m]? = some o ∧ o.k = .a (.mkSl [.int .u8 0] 1 1 [(0, 1, x)]) ∧ o.dst = some t
  | [], s, h => by simp [findMk] at h
  | o :: l, s, h => by
    simp only [findMk] at h
    have hrec : findMk l t (s + 1) = some (j, x) → ∃ m o', j = s + m ∧ (o :: l)[m]? = some o' ∧ o'.k = .a (.mkSl [.int .u8 0] 1 1 [(0, 1, x)]) ∧ o'.dst = some t := fun h => by
      obtain ⟨m, o', e, h1, h2⟩ := findMk_spec h
      exact ⟨m + 1, o', by omega, by simpa using h1, h2⟩
    split at h
    · rename_i y hk
      split at h
      · rename_i hd
        cases h
        exact ⟨0, o, by simp, by simp, hk, hd⟩
      · exact hrec h
    · exact hrec h
theorem findTx_spec {all : List IOp} {i j t : Nat} {x : Opd} : ∀ {l : List IOp} {s : Nat}, findTx all l s = some (i, j, t, x) →
    (∃ m o, i = s + m ∧ l[m]? = some o ∧ o.k = .r (.toStr (.tmp t))) ∧ ∃ o, all[j]? = some o ∧ o.k = .a (.mkSl [.int .u8 0] 1 1 [(0, 1, x)]) ∧ o.dst = some t
  | [], s, h => by simp [findTx] at h
  | o :: l, s, h => by
    simp only [findTx] at h
    have hrec : findTx all l (s + 1) = some (i, j, t, x) → (∃ m o', i = s + m ∧ (o :: l)[m]? = some o' ∧ o'.k = .r (.toStr (.tmp t))) ∧ ∃ o, all[j]? = some o ∧ o.k = .a (.mkSl [.int .u8 0] 1 1 [(0, 1, x)]) ∧ o.dst = some t := fun h => by
      obtain ⟨⟨m, o', e, h1⟩, h2⟩ := findTx_spec h
      exact ⟨⟨m + 1, o', by omega, by simpa using h1⟩, h2⟩
    split at h
    · rename_i y hk
      split at h
      · rename_i hm
        cases h
        obtain ⟨m, o', e, h1, h2⟩ := findMk_spec hm
        exact ⟨⟨0, o, by simp, by simp, hk⟩, o', by rw [e, Nat.zero_add]; exact h1, h2⟩
      · exact hrec h
    · exact hrec h

theorem cFuse_spec {told : List IOp} (hc : cFuse P n ops = some told) :
    ∃ i j t x g, i < ops.size ∧ j < ops.size ∧ i ≠ j ∧ ordered (masks ops.toList []) j i = true ∧ EdgesOk ops ∧ MaskOk ops (masks ops.toList []) ∧ ToldX (FitF P n ops (masks ops.toList []) i j t x g) ops (masks ops.toList []) (Array.replicate ops.size false) told ∧ told.length ≤ ops.size := by
  unfold cFuse at hc
  split at hc
  · cases hc
  · rename_i l0 hl0
    split at hc
    · cases hc
    · rename_i i j t x hf
      split at hc
      case h_2 => cases hc
      rename_i oi oj hoi hoj
      simp only at hc
      split at hc
      case isFalse => cases hc
      rename_i hchk
      simp only [Bool.and_eq_true, decide_eq_true_eq, bne_iff_ne, beq_iff_eq] at hchk
      obtain ⟨⟨⟨⟨⟨⟨⟨⟨⟨hE, hn⟩, hall⟩, hle⟩, hlt⟩, hp⟩, hij⟩, hgg⟩, hji⟩, hfu⟩ := hchk
      simp only [List.all_eq_true, decide_eq_true_eq] at hall hlt hfu
      obtain ⟨⟨m, oi', hm, hoi', hki⟩, oj', hoj', hkj, hdj⟩ := findTx_spec hf
      rw [Nat.zero_add] at hm; subst hm
      rw [hoi] at hoi'; cases hoi'
      rw [hoj] at hoj'; cases hoj'
      have hfit := ops_fit hl0
      have hli : i < l0.length := (List.getElem?_eq_some_iff.1 hoi).1
      have hlj : j < l0.length := (List.getElem?_eq_some_iff.1 hoj).1
      generalize hl1 : (l0.set j { oj with k := .p (.byteStr false x) }).set i { oi with k := .p (.byteStr true x) } = l1 at hc hall hle hlt hp hn hfu
      have hlen1 : l1.length = l0.length := by rw [← hl1]; simp
      generalize hl : (numbered l1 0).map (watched (masks ops.toList []) (numbered l1 0)) = l at hc hall hle hlt hp hn hfu
      have hlen0 : l0.length = ops.size := by have h1 := hfit.len; rw [List.length_range] at h1; exact h1.symm
      have hat : ∀ (m : Nat) o0, l0[m]? = some o0 → Fit P n ops m o0 := fun m o0 h0 => by
        obtain ⟨q, hq, f⟩ := hfit.getR' h0
        have hlt : m < (List.range ops.size).length := (List.getElem?_eq_some_iff.1 hq).1
        rw [List.length_range] at hlt
        rw [List.getElem?_range hlt] at hq
        cases hq; exact f
      have hspec : ∀ (m : Nat) io, l[m]? = some io → io.id = m ∧ ((m = j ∧ io.k = .p (.byteStr false x) ∧ io.guard = oj.guard ∧ io.dst = some t ∧ Fit P n ops j { io with k := .a (.mkSl [.int .u8 0] 1 1 [(0, 1, x)]) }) ∨
          (m = i ∧ io.k = .p (.byteStr true x) ∧ io.guard = oj.guard ∧ Fit P n ops i { io with k := .r (.toStr (.tmp t)) }) ∨ (m ≠ i ∧ m ≠ j ∧ Fit P n ops m io)) := by
        intro m io hi
        rw [← hl, List.getElem?_map, numbered_spec] at hi
        obtain ⟨io1, h1, rfl⟩ := Option.map_eq_some_iff.1 hi
        obtain ⟨io0, h0, rfl⟩ := Option.map_eq_some_iff.1 h1
        obtain ⟨q1, q2, q3, q4⟩ := watched_same (masks ops.toList []) (numbered l1 0) { io0 with id := 0 + m }
        refine ⟨by rw [q4]; simp, ?_⟩
        simp only at q1 q2 q3
        rw [← hl1] at h0
        by_cases hmi : m = i
        · subst hmi
          rw [List.getElem?_set_self (by simpa using hli)] at h0
          cases h0
          refine .inr (.inl ⟨rfl, q3, by rw [q2, hgg], ?_⟩)
          obtain ⟨o, r1, r2, r3, r4, r5⟩ := hat _ _ hoi
          exact ⟨o, r1, q1.trans r2, r3, r4.trans (by rw [q2]), by rw [← hki]; exact r5⟩
        · rw [List.getElem?_set_ne (Ne.symm hmi)] at h0
          by_cases hmj : m = j
          · subst hmj
            rw [List.getElem?_set_self hlj] at h0
            cases h0
            refine .inl ⟨rfl, q3, by rw [q2], by rw [q1]; exact hdj, ?_⟩
            obtain ⟨o, r1, r2, r3, r4, r5⟩ := hat _ _ hoj
            exact ⟨o, r1, q1.trans r2, r3, r4.trans (by rw [q2]), by rw [← hkj]; exact r5⟩
          · rw [List.getElem?_set_ne (Ne.symm hmj)] at h0
            refine .inr (.inr ⟨hmi, hmj, ?_⟩)
            obtain ⟨o, r1, r2, r3, r4, r5⟩ := hat _ _ h0
            exact ⟨o, r1, q1.trans r2, r3, r4.trans (by rw [q2]), by rw [q3]; exact r5⟩
      have hlen : l.length = ops.size := by
        have h2 : ∀ (l : List IOp) s, (numbered l s).length = l.length := by
          intro l; induction l with
          | nil => intro s; rfl
          | cons o l ih => intro s; simp [numbered, ih]
        rw [← hl, List.length_map, h2, hlen1, hlen0]
      generalize plan (masks ops.toList []) l (l.filter (·.k.heavy)) [] = order at hc hall hle hlt hp hn hfu
      have hmap := told_map l (fun i io h => (hspec i io h).1) order hlt
      cases hc
      have hmem : ∀ io ∈ order.filterMap (fun i => l[i]?), ∃ i, i < l.length ∧ l[i]? = some io := fun io hio => by
        obtain ⟨i, _, hi⟩ := List.mem_filterMap.1 hio
        exact ⟨i, (List.getElem?_eq_some_iff.1 hi).1, hi⟩
      refine ⟨i, j, t, x, oj.guard, by omega, by omega, hij, hji, fun i o ho e he hb => by have := edges_spec hE i o (by rw [Array.getElem?_toList]; exact ho) e he hb; omega, mask_ok, ⟨?_, fun io hio => ?_, fun i hi _ => ?_, pairs_spec hp⟩, ?_⟩
      · rw [hmap]; exact nodup_spec hn
      · obtain ⟨m, hm, hio'⟩ := hmem io hio
        obtain ⟨r1, r2⟩ := hspec m io hio'
        have : m < ops.size := by omega
        refine ⟨by rw [r1]; exact this, by rw [r1]; simp [this], hfu io hio, ?_⟩
        rw [r1]; exact r2
      · have hi' : i < l.length := by omega
        have hin := hall i (by simpa using hi')
        have hin' : i ∈ order := by simpa using hin
        exact ⟨l[i], List.mem_filterMap.2 ⟨i, hin', List.getElem?_eq_getElem hi'⟩, (hspec i _ (List.getElem?_eq_getElem hi')).1⟩
      · have h1 : (order.filterMap fun i => l[i]?).length = order.length := by rw [← List.length_map (f := fun o : IOp => o.id), hmap]
        rw [h1]
        omega

/-- A region of open order, as it is told. -/
theorem any_steps {told : List IOp} {a : A} {K : A → H → Prop} (hc : cAny P n ops = some told) (tt : Nat) (hnd : b.roundOf ≠ none → ∀ io ∈ told, ∀ f a, io.k ≠ .h (.dfr f a)) (s : SR P n base μ a h act w) (hE : drawE (Snd P) told [] a h K) :
    Came P n base b k cs ops (Region.linearise.go .any ops ops.size tt (Array.replicate ops.size false) []) μ h act w K := by
  have hD : Down ops (Array.replicate ops.size false) := ⟨by simp, fun i o ho hl e he hb => by
    exfalso
    rcases Nat.lt_or_ge i ops.size with h | h
    · simp [h] at hl
    · simp [Nat.not_lt.2 h] at hl⟩
  unfold cAny at hc
  split at hc
  · rename_i l hl
    cases hc
    obtain ⟨hEd, hM, hT, hlen⟩ := cDraw_spec hl
    exact draw_steps (b := b) (k := k) (cs := cs) hM hEd ops.size tt _ _ hlen hT hD hnd s hE
  · obtain ⟨i, j, t, x, g, hi, hj, hij, hji, hEd, hM, hT, hlen⟩ := cFuse_spec hc
    exact fuse0 hM hEd hi hj hij hji ops.size tt _ _ hlen hT hD (by simp [hj]) hnd s hE
end Mir

/- The mirror, part 21: code, on the machine. -/
set_option linter.unusedSimpArgs false
set_option linter.unusedVariables false
namespace Mir
open Go
variable {P : Program} {n base : Nat} {b : Frame} {cs : List Frame}

/-- How the code's end is reached. -/
def Arr (P : Program) (m : Machine) (b : Frame) (k : List Item) (cs : List Frame) : Ex → Act → World → Prop
  | .nm, a, w => Steps P m (lone (b.atR a k) cs w)
  | .exit id, a, w => ∃ k', exitTo id k' = exitTo id k ∧ Steps P m (lone (b.atR a (.code (.exit id) :: k')) cs w)
  | .ret, a, w => ∃ k', Steps P m (lone (b.atR a (.code .ret :: k')) cs w)
theorem Arr.of_steps {m m1 : Machine} {k : List Item} {e : Ex} {a : Act} {w : World} (h : Steps P m m1) (h' : Arr P m1 b k cs e a w) : Arr P m b k cs e a w := by
  cases e with
  | nm => exact Steps.trans h h'
  | exit id => obtain ⟨k', e, hs⟩ := h'; exact ⟨k', e, Steps.trans h hs⟩
  | ret => obtain ⟨k', hs⟩ := h'; exact ⟨k', Steps.trans h hs⟩
/-- What a piece of code comes to. -/
def Out (P : Program) (n base : Nat) (b : Frame) (k : List Item) (cs : List Frame) (m : Machine) (μ : Mu) (h : H) (w : World) (Q : Ex → A → H → Prop) : Prop :=
  ∃ e a' h' act' μ' w', Q e a' h' ∧ Arr P m b k cs e act' w' ∧ St P μ h w μ' h' w' ∧ SR P n base μ' a' h' act' w'
theorem Out.of_steps {m m1 : Machine} {k : List Item} {μ μ1 : Mu} {h h1 : H} {w w1 : World} {Q : Ex → A → H → Prop} (hs : Steps P m m1) (st : St P μ h w μ1 h1 w1) (o : Out P n base b k cs m1 μ1 h1 w1 Q) : Out P n base b k cs m μ h w Q := by
  obtain ⟨e, a', h', act', μ', w', hQ, ha, hst, hr⟩ := o
  exact ⟨e, a', h', act', μ', w', hQ, .of_steps hs ha, st.trans hst, hr⟩

theorem SR.cond {μ : Mu} {a : A} {h : H} {act : Act} {w : World} (s : SR P n base μ a h act w) {x : Operand} {y : Opd} (hc : cOpd P n x = some y) {t : Bool} (he : y.ev a.t = .bool t) : act.eval x = .bool t := by
  have := rho1 s.rho hc
  rw [he] at this
  exact this.bool_inv

/-- A range over a function (the part that needs the loops' records) is treated on its own. -/
def RangeOk (P : Program) : Prop := ∀ (n base : Nat) (b : Frame) (cs : List Frame) (f : Operand) (ps : Array Tmp) (as bd : Code) (ic : IC), comp P n (.rangeFunc f ps as bd) = some ic → b.roundOf = none → base ≤ base →
  ∀ (k : List Item) (a : A) (h : H) (act : Act) (μ : Mu) (w : World) (Q : Ex → A → H → Prop), base ≤ w.heap.size → SR P n base μ a h act w → E (Snd P) ic a h Q → Out P n base b k cs (lone (b.atR act (.code (.rangeFunc f ps as bd) :: k)) cs w) μ h w Q

theorem exitTo_skip {id : Nat} {x : Item} {k : List Item} (hx : ∀ i, x ≠ .inBlock i) : exitTo id (x :: k) = exitTo id k := by
  cases x <;> first | rfl | exact absurd rfl (hx _)

theorem code_sound (hmix : P.follows .mixedOrders = true) (hrange : RangeOk P) : ∀ (c : Code) {ic : IC}, comp P n c = some ic → (b.roundOf ≠ none → ic.defers = false) →
    ∀ (k : List Item) {a : A} {h : H} {act : Act} {μ : Mu} {w : World} {Q : Ex → A → H → Prop}, base ≤ w.heap.size → SR P n base μ a h act w → E (Snd P) ic a h Q → Out P n base b k cs (lone (b.atR act (.code c :: k)) cs w) μ h w Q := by
  intro c
  induction c with
  | skip =>
    intro ic hc hnd k a h act μ w Q hbase s hE
    simp only [comp] at hc; cases hc
    exact ⟨.nm, a, h, act, μ, w, hE, Steps.one stepR_skip, St.refl s.rel, s⟩
  | label l =>
    intro ic hc hnd k a h act μ w Q hbase s hE
    simp only [comp] at hc; cases hc
    exact ⟨.nm, a, h, act, μ, w, hE, Steps.one stepR_label, St.refl s.rel, s⟩
  | exit id =>
    intro ic hc hnd k a h act μ w Q hbase s hE
    simp only [comp] at hc; cases hc
    exact ⟨.exit id, a, h, act, μ, w, hE, ⟨k, rfl, Steps.refl P _⟩, St.refl s.rel, s⟩
  | ret =>
    intro ic hc hnd k a h act μ w Q hbase s hE
    simp only [comp] at hc; cases hc
    exact ⟨.ret, a, h, act, μ, w, hE, ⟨k, Steps.refl P _⟩, St.refl s.rel, s⟩
  | region id ops draw =>
    intro ic hc hnd k a h act μ w Q hbase s hE
    cases draw with
    | false =>
      simp only [comp, Option.some.injEq] at hc
      split at hc
      case h_2 => subst hc; exact hE.elim
      rename_i l hl
      subst hc
      simp only [E] at hE
      obtain ⟨a', h', act', μ', w', hQ, hs, hst, hr⟩ := ops_steps (b := b) (k := k) (cs := cs) l _ (ops_fit hl) (fun hb => not_dfr (hnd hb)) s hE
      exact ⟨.nm, a', h', act', μ', w', hQ, Steps.head stepR_region hs, hst, hr⟩
    | true =>
      simp only [comp, Option.some.injEq] at hc
      split at hc
      case h_2 => subst hc; exact hE.elim
      rename_i l hl
      subst hc
      simp only [E] at hE
      have st0 : St P μ h w μ h { w with drawn := w.drawn + 1 } := (St.refl s.rel).eqv ⟨rfl, rfl, rfl, rfl⟩
      have s1 : SR P n base μ a h act { w with drawn := w.drawn + 1 } := s.step st0
      obtain ⟨a', h', act', μ', w', hQ, hs, hst, hr⟩ := any_steps (b := b) (k := k) (cs := cs) hl (w.tape w.drawn (.order b.fn id)) (fun hb => not_dfr (hnd hb)) s1 hE
      refine ⟨.nm, a', h', act', μ', w', hQ, Steps.head stepR_region_draw ?_, st0.trans hst, hr⟩
      simp only [Region.schedule, hmix, Bool.true_or, if_true]
      exact hs
  | seq x y ihx ihy =>
    intro ic hc hnd k a h act μ w Q hbase s hE
    simp only [comp] at hc
    split at hc
    · rename_i cx cy hx hy
      cases hc
      simp only [IC.defers, Bool.or_eq_false_iff] at hnd
      simp only [E] at hE
      obtain ⟨e, a1, h1, act1, μ1, w1, hQ, ha, hst, hr⟩ := ihx hx (fun hb => (hnd hb).1) (.code y :: k) hbase s hE
      have hs0 : Steps P (lone (b.atR act (.code (.seq x y) :: k)) cs w) (lone (b.atR act (.code x :: .code y :: k)) cs w) := .one stepR_seq
      cases e with
      | nm =>
        exact Out.of_steps (Steps.trans hs0 ha) hst (ihy hy (fun hb => (hnd hb).2) k (Nat.le_trans hbase hst.size) hr hQ)
      | exit id =>
        obtain ⟨k', e1, hs⟩ := ha
        exact ⟨.exit id, a1, h1, act1, μ1, w1, hQ, ⟨k', e1.trans (exitTo_skip (by intro i e; cases e)), Steps.trans hs0 hs⟩, hst, hr⟩
      | ret =>
        obtain ⟨k', hs⟩ := ha
        exact ⟨.ret, a1, h1, act1, μ1, w1, hQ, ⟨k', Steps.trans hs0 hs⟩, hst, hr⟩
    · cases hc
  | cond c x y ihx ihy =>
    intro ic hc hnd k a h act μ w Q hbase s hE
    simp only [comp] at hc
    split at hc
    · rename_i c' cx cy h1 hx hy
      cases hc
      simp only [IC.defers, Bool.or_eq_false_iff] at hnd
      simp only [E] at hE
      split at hE
      · rename_i t ht
        have hs0 : Steps P (lone (b.atR act (.code (.cond c x y) :: k)) cs w) (lone (b.atR act (.code (if t then x else y) :: k)) cs w) := .one (stepR_cond (s.cond h1 ht))
        cases t with
        | true => exact Out.of_steps hs0 (St.refl s.rel) (ihx hx (fun hb => (hnd hb).1) k hbase s (hE.1 rfl))
        | false => exact Out.of_steps hs0 (St.refl s.rel) (ihy hy (fun hb => (hnd hb).2) k hbase s (hE.2 rfl))
      · exact hE.elim
    · cases hc; exact hE.elim
    · cases hc
  | block id c ih =>
    intro ic hc hnd k a h act μ w Q hbase s hE
    simp only [comp] at hc
    obtain ⟨cc, hcc, rfl⟩ := Option.map_eq_some_iff.1 hc
    simp only [E] at hE
    obtain ⟨e, a1, h1, act1, μ1, w1, hQ, ha, hst, hr⟩ := ih hcc hnd (.inBlock id :: k) hbase s hE
    have hs0 : Steps P (lone (b.atR act (.code (.block id c) :: k)) cs w) (lone (b.atR act (.code c :: .inBlock id :: k)) cs w) := .one stepR_block
    cases e with
    | nm => exact ⟨.nm, a1, h1, act1, μ1, w1, hQ, Steps.trans hs0 (Steps.trans ha (.one stepR_inBlock)), hst, hr⟩
    | ret => obtain ⟨k', hs⟩ := ha; exact ⟨.ret, a1, h1, act1, μ1, w1, hQ, ⟨k', Steps.trans hs0 hs⟩, hst, hr⟩
    | exit i =>
      obtain ⟨k', e1, hs⟩ := ha
      simp only [atBlock] at hQ
      by_cases hi : i = id
      · rw [if_pos hi] at hQ
        have e2 : exitTo i k' = some k := by rw [e1]; simp [exitTo, hi]
        exact ⟨.nm, a1, h1, act1, μ1, w1, hQ, Steps.trans hs0 (Steps.trans hs (.one (stepR_exit e2))), hst, hr⟩
      · rw [if_neg hi] at hQ
        have e2 : exitTo i k' = exitTo i k := by
          rw [e1]
          have : ¬ id = i := fun e => hi e.symm
          simp [exitTo, this]
        exact ⟨.exit i, a1, h1, act1, μ1, w1, hQ, ⟨k', e2, Steps.trans hs0 hs⟩, hst, hr⟩
  | loop c ih =>
    intro ic hc hnd k a h act μ w Q hbase s hE
    simp only [comp] at hc
    obtain ⟨cc, hcc, rfl⟩ := Option.map_eq_some_iff.1 hc
    simp only [E] at hE
    have key := hE (fun a h => ∀ (act : Act) (μ : Mu) (w : World), base ≤ w.heap.size → SR P n base μ a h act w → Out P n base b k cs (lone (b.atR act (.code c :: .inLoop c :: k)) cs w) μ h w Q) (by
      intro a h hb act μ w hbase s
      obtain ⟨e, a1, h1, act1, μ1, w1, hQ, ha, hst, hr⟩ := ih hcc hnd (.inLoop c :: k) hbase s hb
      cases e with
      | nm => exact Out.of_steps (Steps.trans ha (.one stepR_inLoop)) hst (hQ act1 μ1 w1 (Nat.le_trans hbase hst.size) hr)
      | ret => exact ⟨.ret, a1, h1, act1, μ1, w1, hQ, ha, hst, hr⟩
      | exit i =>
        obtain ⟨k', e1, hs⟩ := ha
        exact ⟨.exit i, a1, h1, act1, μ1, w1, hQ, ⟨k', e1.trans (exitTo_skip (by intro i e; cases e)), hs⟩, hst, hr⟩)
    exact Out.of_steps (.one stepR_loop) (St.refl s.rel) (key act μ w hbase s)
  | scope c ih =>
    intro ic hc hnd k a h act μ w Q hbase s hE
    simp only [comp] at hc
    obtain ⟨e, a1, h1, act1, μ1, w1, hQ, ha, hst, hr⟩ := ih hc hnd (.inScope c :: k) hbase s hE
    have hs0 : Steps P (lone (b.atR act (.code (.scope c) :: k)) cs w) (lone (b.atR act (.code c :: .inScope c :: k)) cs w) := .one (step_lone_go (by simp [stepG, stepG.exec, Frame.atR]))
    cases e with
    | nm => exact ⟨.nm, a1, h1, act1, μ1, w1, hQ, Steps.trans hs0 (Steps.trans ha (.one (step_lone_go (by simp [stepG, stepG.exec, Frame.atR])))), hst, hr⟩
    | ret => obtain ⟨k', hs⟩ := ha; exact ⟨.ret, a1, h1, act1, μ1, w1, hQ, ⟨k', Steps.trans hs0 hs⟩, hst, hr⟩
    | exit i =>
      obtain ⟨k', e1, hs⟩ := ha
      exact ⟨.exit i, a1, h1, act1, μ1, w1, hQ, ⟨k', e1.trans (exitTo_skip (by intro i e; cases e)), Steps.trans hs0 hs⟩, hst, hr⟩
  | rangeFunc f ps as bd _ _ =>
    intro ic hc hnd k a h act μ w Q hbase s hE
    by_cases hst : ic = stuckC
    · subst hst; exact hE.elim
    have hro : b.roundOf = none := by
      cases hb : b.roundOf with
      | none => rfl
      | some l =>
        have := hnd (by rw [hb]; simp)
        simp only [comp] at hc
        split at hc
        · split at hc
          · cases hc; cases this
          · cases hc; exact absurd rfl hst
        · cases hc; exact absurd rfl hst
    exact hrange n base b cs f ps as bd ic hc hro (Nat.le_refl _) k a h act μ w Q hbase s hE
  | _ =>
    intro ic hc hnd k a h act μ w Q hbase s hE
    simp only [comp, Option.some.injEq] at hc
    subst hc
    exact hE.elim
end Mir

/- The mirror, part 22: deferred calls, results. -/
set_option linter.unusedSimpArgs false
set_option linter.unusedVariables false
namespace Mir
open Go
variable {P : Program} {n base : Nat} {μ : Mu} {h : H} {w : World}

/-! ### Results -/
def resGet (tmps : Array Value) : ResultVar → Sem Value
  | .tmp t => pure (tmps.getD t Go.undef)
  | .cell a t => do loadVar t (← asAddr (tmps.getD a Go.undef))
theorem results_list {t : Tm} {tmps : Array Value} (r : R P μ h w) (ht : TR μ n t tmps) : ∀ (rs : List ResultVar) (l : List Res) (vs : List V), cRes P n rs = some l → allSome (l.map (resOf t h)) = some vs →
    ∃ ds, VRs μ vs ds ∧ (rs.mapM (resGet tmps)).run P w = .ok ds w
  | [], l, vs, hc, hs => by
    simp only [cRes] at hc; cases hc
    simp only [List.map_nil, allSome] at hs; cases hs
    exact ⟨[], .nil, by simp⟩
  | .tmp i :: rs, l, vs, hc, hs => by
    simp only [cRes] at hc
    split at hc
    · rename_i l' hl
      split at hc
      · cases hc
        simp only [List.map_cons, resOf] at hs
        have key : ∃ v vs', t i = v ∧ allSome (l'.map (resOf t h)) = some vs' ∧ vs = v :: vs' := by
          cases hti : t i <;> simp only [hti, allSome] at hs <;> (try cases hs; done)
          all_goals
            split at hs
            · rename_i vs' hvs
              cases hs
              exact ⟨_, vs', rfl, hvs, rfl⟩
            · cases hs
        obtain ⟨v, vs', h1, h2, rfl⟩ := key
        obtain ⟨ds, hv, hr⟩ := results_list r ht rs l' vs' hl h2
        have := ht.2 i
        rw [h1] at this
        refine ⟨tmps.getD i Go.undef :: ds, .cons this hv, ?_⟩
        simp only [List.mapM_cons, resGet, Sem.run_bind, Sem.run_pure, Result.andThen_ok, hr]
      · cases hc
    · cases hc
  | .cell i ty :: rs, l, vs, hc, hs => by
    simp only [cRes] at hc
    split at hc
    · rename_i l' s g hl hz
      split at hc
      · cases hc
        simp only [List.map_cons, resOf] at hs
        cases hti : t i <;> simp only [hti, allSome] at hs <;> (try cases hs; done)
        rename_i bb o
        cases hb : h bb with
        | none => simp [hb, allSome] at hs
        | some ob =>
          cases ob <;> simp only [hb, allSome] at hs <;> (try cases hs; done)
          rename_i cs ro
          cases hp : partOf o s g cs with
          | none => simp [hp, allSome] at hs
          | some v =>
            simp only [hp, allSome] at hs
            split at hs
            · rename_i vs' hvs
              cases hs
              obtain ⟨ds, hv, hr⟩ := results_list r ht rs l' vs' hl hvs
              have hti' := ht.2 i
              rw [hti] at hti'
              obtain ⟨L, hL, e⟩ := hti'.ptr_inv
              obtain ⟨d, hd, hrd⟩ := loadVar_sound r hz hb hL hp
              refine ⟨d :: ds, .cons hd hv, ?_⟩
              simp only [List.mapM_cons, resGet, Sem.run_bind, e, asAddr, Result.andThen_ok, hrd, hr, Sem.run_pure]
            · cases hs
      · cases hc
    · cases hc
theorem results_sound {t : Tm} {tmps : Array Value} {fn : Func} {l : List Res} {vs : List V} (r : R P μ h w) (ht : TR μ n t tmps) (hc : cRes P n fn.results.toList = some l) (hs : allSome (l.map (resOf t h)) = some vs) :
    ∃ d, VR μ (packed vs) d ∧ (results fn tmps).run P w = .ok d w := by
  obtain ⟨ds, hv, hr⟩ := results_list r ht _ _ _ hc hs
  have hrun : (fn.results.mapM (resGet tmps)).run P w = .ok ds.toArray w := by
    rw [Array.mapM_eq_mapM_toList]
    simp [hr]
  have e : results fn tmps = (do let vs ← fn.results.mapM (resGet tmps); pure (if h : vs.size = 1 then vs[0] else .tuple vs)) := by
    unfold results
    congr 1
  rw [e]
  simp only [Sem.run_bind, hrun, Result.andThen_ok, Sem.run_pure]
  have hl := hv.len
  cases hv with
  | nil => exact ⟨_, VR.mkTup (ds := []) .nil, rfl⟩
  | cons h1 h2 =>
    cases h2 with
    | nil => exact ⟨_, h1, rfl⟩
    | cons h3 h4 => exact ⟨_, VR.mkTup (.cons h1 (.cons h3 h4)), by simp⟩

/-! ### Deferred calls -/
/-- The block of a loop's deferred calls is done with. -/
theorem St.mark {μ0 : Mu} {h0 : H} {w0 : World} (s : St P μ0 h0 w0 μ h w) {r : Nat} {x : Option (List Deferred)} (hr : w.heap[r]? = some (.deferred x)) (hb : w0.heap.size ≤ r) (y : Option (List Deferred)) :
    St P μ0 h0 w0 μ h { w with heap := w.heap.setIfInBounds r (.deferred y) } := by
  have hne : ∀ b o L, h b = some o → μ b = some L → L.B ≠ r := fun b o L hb hL e => by
    obtain ⟨L', z, e1, e2, e3⟩ := s.rel.at_ b o hb
    rw [hL] at e1; cases e1
    rw [e, hr] at e2; cases e2
    exact OR.no_defer e3
  refine ⟨s.le, ⟨s.rel.fin, fun b o hb => ?_, s.rel.inj, s.rel.glob, fun b o L z hb hL hz => ?_⟩, by simp; exact s.size, fun B hB ho => ?_, s.own, s.fresh, s.os, s.tape, s.output⟩
  · obtain ⟨L, z, e1, e2, e3⟩ := s.rel.at_ b o hb
    refine ⟨L, z, e1, ?_, e3⟩
    rw [Array.getElem?_setIfInBounds_ne (Ne.symm (hne b o L hb e1))]
    exact e2
  · rw [Array.getElem?_setIfInBounds_ne (Ne.symm (hne b o L hb hL))] at hz
    exact s.rel.byt b o L z hb hL hz
  · rw [Array.getElem?_setIfInBounds_ne (by omega)]
    exact s.kept B hB ho

theorem step_unwind_value {fr : Frame} {cs : List Frame} {w' : World} {d : Deferred} {ds : List Deferred} {v : Value} (hm : fr.mode = .returning) (hd : fr.defers = d :: ds) {fv : Go.Fn} {cap : Array Value} (ht : d.target = .fn fv cap)
    (hi : (invoke d.target d.args).run P w = .ok (.value v) w') : step P (lone fr cs w) = .next (lone { fr with defers := ds } cs w') := by
  obtain ⟨t, a⟩ := d
  simp only at ht hi
  subst ht
  refine step_lone_go ?_
  simp [stepG, unwind, callDeferred, hm, hd, hi]
theorem step_unwind_mark {fr : Frame} {cs : List Frame} {ds : List Deferred} {r : Nat} (hm : fr.mode = .returning) (hd : fr.defers = { target := .collected r, args := #[] } :: ds) (hr : w.heap[r]? = some (.deferred (some []))) :
    step P (lone fr cs w) = .next (lone { fr with defers := ds } cs { w with heap := w.heap.setIfInBounds r (.deferred none) }) := by
  refine step_lone_go ?_
  have : (Instr.takeDeferred r).run P w = .ok [] { w with heap := w.heap.setIfInBounds r (.deferred none) } := by
    simp [Instr.takeDeferred, getObj, setObj, Sem.run, Sem.run_bind, hr]
  simp [stepG, unwind, hm, hd, this]

theorem DR.unmark {r : Nat} {y : Obj} {ds : List (V × List V)} {Ds : List Deferred} (hD : DR μ base w ds Ds) (hn : ∀ d ∈ Ds, d.target ≠ .collected r) : DR μ base { w with heap := w.heap.setIfInBounds r y } ds Ds := by
  induction hD with
  | nil => exact .nil
  | call a b c _ ih => exact .call a b c (ih fun d hd => hn d (List.mem_cons_of_mem _ hd))
  | mark a b c _ ih =>
    rename_i q _ _ _
    have hq : r ≠ q := fun e => hn _ (List.mem_cons_self ..) (by rw [e])
    refine .mark a ?_ c (ih fun d hd => hn d (List.mem_cons_of_mem _ hd))
    show (w.heap.setIfInBounds r y)[q]? = _
    rw [Array.getElem?_setIfInBounds_ne hq]; exact b
theorem unwind_steps {μ0 : Mu} {h0 : H} {w0 : World} (hbase : base = w0.heap.size) {K : H → Prop} : ∀ (Ds : List Deferred) {ds : List (V × List V)} {μ : Mu} {h : H} {w : World} (fr : Frame) (cs : List Frame), DR μ base w ds Ds → St P μ0 h0 w0 μ h w → fr.mode = .returning → fr.defers = Ds → dfrE (Snd P) ds h K →
    ∃ μ' h' w', K h' ∧ Steps P (lone fr cs w) (lone { fr with defers := [] } cs w') ∧ μ.le μ' ∧ St P μ0 h0 w0 μ' h' w' := by
  intro Ds
  induction Ds with
  | nil =>
    intro ds μ h w fr cs hD s hm hd hE
    cases hD
    refine ⟨μ, h, w, hE, ?_, .refl _, s⟩
    have : ({ fr with defers := [] } : Frame) = fr := by rw [← hd]
    rw [this]
    exact Steps.refl P _
  | cons D Ds ih =>
    intro ds μ h w fr cs hD s hm hd hE
    cases hD with
    | call h1 h2 h3 h4 =>
      rename_i f first cap args as cs' args' ds
      simp only [dfrE] at hE
      have hran := hE μ w (as ++ args' ++ cs') ((h1.append h3).append h2) s.rel
      have hargs : (as ++ args' ++ cs').toArray = (as.toArray ++ args'.toArray) ++ cs'.toArray := by simp
      rw [hargs] at hran
      rcases hran with ⟨v, w', hr, v', h', μ', hK, hv, hst⟩ | ⟨hr, hent⟩
      · obtain ⟨μ2, h2', w2, hK2, hs2, hle2, hst2⟩ := ih { fr with defers := Ds } cs (h4.mono hst s.rel) (s.trans hst) hm rfl hK
        exact ⟨μ2, h2', w2, hK2, Steps.head (step_unwind_value hm hd rfl hr) hs2, hst.le.trans hle2, hst2⟩
      · obtain ⟨v, w', fr1, ⟨v', h', μ', hK, hv, hst⟩, hs, hfn, hk, hmo, hde, hres⟩ := hent .deferred (.inr rfl) ({ fr with defers := Ds } :: cs)
        have hback := step_going_returned (c := { fr with defers := Ds }) (cs := cs) hk ⟨hmo, hde, hres⟩
        have hset : settle ({ fr with defers := Ds } : Frame).mode = .returning := by show settle fr.mode = _; rw [hm]; rfl
        rw [hset] at hback
        have hfr : ({ ({ fr with defers := Ds } : Frame) with mode := .returning } : Frame) = { fr with defers := Ds } := by
          rw [← hm]
        rw [hfr] at hback
        obtain ⟨μ2, h2', w2, hK2, hs2, hle2, hst2⟩ := ih { fr with defers := Ds } cs (h4.mono hst s.rel) (s.trans hst) hm rfl hK
        refine ⟨μ2, h2', w2, hK2, Steps.head (step_defer (by rw [hm]; simp) hd rfl hr) (Steps.trans hs (Steps.head hback hs2)), hst.le.trans hle2, hst2⟩
    | mark h1 h2 h3 h4 =>
      rename_i r
      have s' := s.mark h2 (by omega) none
      have hD' : DR μ base { w with heap := w.heap.setIfInBounds r (.deferred none) } ds Ds := by
        exact h4.unmark h3
      obtain ⟨μ2, h2', w2, hK2, hs2, hle2, hst2⟩ := ih { fr with defers := Ds } cs hD' s' hm rfl hE
      exact ⟨μ2, h2', w2, hK2, Steps.head (step_unwind_mark hm hd h2) hs2, hle2, hst2⟩
end Mir

/- The mirror, part 23: ranging over functions; functions; the theorem. -/
set_option linter.unusedSimpArgs false
set_option linter.unusedVariables false
namespace Mir
open Go
variable {P : Program} {n base : Nat} {μ : Mu} {h : H} {w : World} {b : Frame} {cs : List Frame}

/-- A block that isn't the mirror's. -/
theorem St.extra (r : R P μ h w) (x : Obj) : St P μ h w μ h (w.alloc x) := by
  refine ⟨.refl _, ⟨r.fin, fun b o hb => ?_, r.inj, r.glob, fun b o L z hb hL hz => by rw [alloc_old w x (r.lt hb hL)] at hz; exact r.byt b o L z hb hL hz⟩, by simp, fun B hB _ => alloc_old w x hB, fun B hB => .inl hB, fun b hb => .inl hb, rfl, rfl, rfl⟩
  obtain ⟨L, z, e1, e2, e3⟩ := r.at_ b o hb
  exact ⟨L, z, e1, by rw [alloc_old w x (Array.getElem?_eq_some_iff.1 e2).1]; exact e2, e3⟩
/-- A piece of memory is done with. -/
theorem St.drop (r : R P μ h w) {l : Nat} {o : AObj} {L : Loc} (hl : h l = some o) (hro : o.ro = false) (hL : μ l = some L) {w' : World} {x : Obj} (hat : At w w' L.B x) : St P μ h w μ (hset h l none) w' := by
  have hs : Sub (hset h l none) h := fun b o hb => by
    by_cases e : b = l
    · subst e; simp [hset] at hb
    · simpa [hset, e] using hb
  refine ⟨.refl _, ⟨r.fin, fun b o' hb => ?_, fun b b' o o' L L' h1 h2 => r.inj b b' o o' L L' (hs _ _ h1) (hs _ _ h2), r.glob, fun b o' L' z hb hL' hz => ?_⟩, by rw [hat.size]; exact Nat.le_refl _, fun B hB hO => hat.else_ B fun e => hO ⟨l, o, L, hl, hro, hL, e.symm⟩,
    fun B ⟨b, o, L, hb, q⟩ => .inl ⟨b, o, L, hs _ _ hb, q⟩, fun b hb => .inl fun e => ?_, hat.rest.1, hat.rest.2.1, hat.rest.2.2⟩
  · have hne : b ≠ l := fun e => by subst e; simp [hset] at hb
    obtain ⟨L', z, e1, e2, e3⟩ := r.at_ b o' (hs _ _ hb)
    exact ⟨L', z, e1, by rw [hat.else_ _ fun e => r.inj l b o o' L L' hl (hs _ _ hb) (Ne.symm hne) hL e1 hro e.symm]; exact e2, e3⟩
  · have hne : b ≠ l := fun e => by subst e; simp [hset] at hb
    rw [hat.else_ _ fun e => r.inj l b o o' L L' hl (hs _ _ hb) (Ne.symm hne) hL hL' hro e.symm] at hz
    exact r.byt b o' L' z (hs _ _ hb) hL' hz
  · by_cases e' : b = l
    · subst e'; simp [hset] at hb
    · simp [hset, e', e] at hb

theorem run_getLoop {l : Nat} {r : Loop} (hx : w.heap[l]? = some (.loop r)) : (Instr.getLoop l).run P w = .ok r w := by
  simp [Instr.getLoop, getObj, Sem.run, hx, Sem.run_bind]
theorem run_setLoop {l : Nat} {r : Loop} {y : Obj} (hx : w.heap[l]? = some (.loop r)) : (setObj l y).run P w = .ok () { w with heap := w.heap.setIfInBounds l y } := by simp [setObj, Sem.run, hx]
theorem DR.lt {ds : List (V × List V)} {Ds : List Deferred} (hD : DR μ base w ds Ds) : ∀ d ∈ Ds, d.target ≠ .collected w.heap.size := by
  induction hD with
  | nil => intro d hd; cases hd
  | call a b c _ ih =>
    intro d hd
    rcases List.mem_cons.1 hd with rfl | hd
    · intro e; cases e
    · exact ih d hd
  | mark a hb c _ ih =>
    intro d hd
    rcases List.mem_cons.1 hd with rfl | hd
    · intro e
      cases e
      rw [Array.getElem?_eq_none (Nat.le_refl _)] at hb; cases hb
    · exact ih d hd

theorem step_rangeFunc_value {a : Act} {k : List Item} {g : Operand} {ps : Array Tmp} {assign body : Code} {l : Nat} {mk : List Deferred} {w₁ w₁' w₂ : World} {d : Deferred} {v : Value}
    (he : (Instr.enterLoop b.fn a.tmps ps assign body b.roundOf).run P w = .ok (l, mk) w₁)
    (hres : (resolve a.eval (rangeCall g l) 0).run P w₁ = .ok d w₁') (hinv : (invoke d.target d.args).run P w₁' = .ok (.value v) w₂) :
    step P (lone (b.atR a (.code (.rangeFunc g ps assign body) :: k)) cs w) =
      .next (lone (b.atR { a with defers := mk ++ a.defers } (.endRangeFunc l :: k)) cs w₂) :=
  step_lone_go (by
    have hev := Frame.eval_atR b { a with defers := mk ++ a.defers } (.inRangeFunc l :: k)
    simp only [Frame.atR] at hev
    have hres' : Sem.run P (resolve ({ tmps := a.tmps, defers := mk ++ a.defers } : Act).eval { callee := .value g, args := #[.const (.func (.yield l) #[] #[])], argTypes := #[] } 0) w₁ = .ok d w₁' := hres
    simp [stepG, stepG.exec, Frame.atR, Sem.runT_eq, he, GStep.bare_after, stepG.apply, hev, Sem.run_bind, hres', hinv, Result.andThen, Frame.finish])

theorem range_ok : RangeOk P := by
  intro n base b cs f ps as bd ic hc hro _ k a h act μ w Q hbase s hE
  simp only [comp] at hc
  split at hc
  · rename_i f' ca cb h1 h2 h3
    split at hc
    · rename_i hchk
      cases hc
      obtain ⟨hda, hdb, hps⟩ := hchk
      -- the record, the block
      have hst1 : St P μ h w μ h (w.alloc (.deferred (some []))) := St.extra s.rel _
      have hsz : act.tmps.size = n := s.t.1
      let r : Loop := { state := .ready, pending := none, fn := b.fn, tmps := act.tmps, params := ps, assign := as, body := bd, defers := w.heap.size }
      obtain ⟨l, hl1, hl2, _, hst2⟩ := St.new hst1.rel (.loop r) (.loop a.t ps.toList ca cb .ready none) 0 (fun l hl => by
        have hle : μ.le (fun i => if i = l then some ⟨(w.alloc (.deferred (some []))).heap.size, 0, 0⟩ else μ i) := fun b L e => by
          have : b ≠ l := fun e' => by subst e'; rw [hl] at e; cases e
          simp [this, e]
        refine ⟨r, rfl, rfl, rfl, by simp [r], fun i => (s.t.2 i).mono hle, fun p hp => ?_, by show comp P act.tmps.size as = _; rw [hsz]; exact h2, by show comp P act.tmps.size bd = _; rw [hsz]; exact h3, hda, hdb⟩
        show p < act.tmps.size
        rw [hsz]
        have := List.all_eq_true.1 hps p hp
        simpa using this)
      have hst12 := hst1.trans hst2
      generalize hμ1 : (fun i => if i = l then some (⟨(w.alloc (.deferred (some []))).heap.size, 0, 0⟩ : Loc) else μ i) = μ1 at hst2 hst12
      have hLl : μ1 l = some ⟨(w.alloc (.deferred (some []))).heap.size, 0, 0⟩ := by rw [← hμ1]; simp
      have hB : (w.alloc (.deferred (some []))).heap.size = w.heap.size + 1 := by simp
      have henter : (Instr.enterLoop b.fn act.tmps ps as bd b.roundOf).run P w = .ok (w.heap.size + 1, [{ target := .collected w.heap.size, args := #[] }]) ((w.alloc (.deferred (some []))).alloc (.loop r)) := by
        rw [hro, ← hB]; rfl
      -- the activation, with the mark
      have s1 : SR P n base μ1 a (hadd h l (.loop a.t ps.toList ca cb .ready none)) { act with defers := [{ target := .collected w.heap.size, args := #[] }] ++ act.defers } ((w.alloc (.deferred (some []))).alloc (.loop r)) := by
        have s0 := s.step hst12
        refine ⟨s0.rel, s0.t, .mark hbase ?_ (s.d.lt) s0.d⟩
        rw [alloc_old _ _ (by rw [hB]; omega)]
        exact alloc_new w _
      simp only [E] at hE
      have hEl := hE l hl2
      cases hfe : f'.ev a.t <;> simp only [hfe] at hEl <;> (try exact hEl.elim)
      rename_i g first cap
      have hfv := rho1 s.rho h1
      rw [hfe] at hfv
      obtain ⟨fs, cps, e, q1, q2⟩ := hfv.fn_inv
      have hran := hEl μ1 _ (fs ++ [.func (.yield (w.heap.size + 1)) #[] #[]] ++ cps) (((VRs.mono hst12.le q1).append (.cons (by have := VR.yield hLl; rw [hB] at this; exact this) .nil)).append (VRs.mono hst12.le q2)) s1.rel
      have hres : (resolve act.eval (rangeCall f (w.heap.size + 1)) 0).run P ((w.alloc (.deferred (some []))).alloc (.loop r)) = .ok { target := .fn (.func g) cps.toArray, args := fs.toArray ++ #[.func (.yield (w.heap.size + 1)) #[] #[]] } ((w.alloc (.deferred (some []))).alloc (.loop r)) := by
        have hm : (#[Operand.const (.func (.yield (w.heap.size + 1)) #[] #[])].map act.eval) = #[.func (.yield (w.heap.size + 1)) #[] #[]] := by simp [Act.eval]
        simp only [resolve, rangeCall, e, Deferred.ofValue, Sem.run_pure, hm]
      have hargs : (fs ++ [Value.func (.yield (w.heap.size + 1)) #[] #[]] ++ cps).toArray = (fs.toArray ++ #[.func (.yield (w.heap.size + 1)) #[] #[]]) ++ cps.toArray := by simp
      rw [hargs] at hran
      -- the call
      have hcall : ∃ d w', After P μ1 (hadd h l (.loop a.t ps.toList ca cb .ready none)) ((w.alloc (.deferred (some []))).alloc (.loop r)) (fun _ h' => ∃ t ps as bd st pd, h' l = some (.loop t ps as bd st pd) ∧ st ≠ .busy ∧ Q (pd.getD .nm) a (hset h' l none)) d w' ∧
          Steps P (lone (b.atR act (.code (.rangeFunc f ps as bd) :: k)) cs w) (lone (b.atR { act with defers := [{ target := .collected w.heap.size, args := #[] }] ++ act.defers } (.endRangeFunc (w.heap.size + 1) :: k)) cs w') := by
        rcases hran with ⟨d, w', hr, ha⟩ | ⟨hr, hent⟩
        · exact ⟨d, w', ha, .one (step_rangeFunc_value henter hres hr)⟩
        · obtain ⟨d, w', fr, ha, hs, hfn, hk, hm, hd, fn, hff, hres'⟩ := hent .normal (.inl rfl) (b.atR { act with defers := [{ target := .collected w.heap.size, args := #[] }] ++ act.defers } (.inRangeFunc (w.heap.size + 1) :: k) :: cs)
          refine ⟨d, w', ha, Steps.head (stepR_rangeFunc henter hres hr) (Steps.trans hs (.one ?_))⟩
          rw [← finish_atR_inRangeFunc (w.heap.size + 1) d]
          exact step_leave_returned ⟨hm, hd, hk, fn, hff, hres'⟩
      obtain ⟨d, w', ⟨v, h', μ', ⟨t, ps', as', bd', st, pd, hl', hst', hQ⟩, _, hst3⟩, hs⟩ := hcall
      -- the end
      have hLl' := hst3.le l _ hLl
      obtain ⟨L', x, e1, e2, e3⟩ := hst3.rel.at_ l _ hl'
      rw [hLl'] at e1; cases e1
      obtain ⟨r', rfl, g1, g2, g3⟩ := e3
      have hlt : w.heap.size + 1 < w'.heap.size := (Array.getElem?_eq_some_iff.1 (by rw [hB] at e2; exact e2)).1
      have e2' : w'.heap[w.heap.size + 1]? = some (.loop r') := by rw [hB] at e2; exact e2
      have hbusy : (r'.state == .busy) = false := by
        cases st
        · simp only [LSt.is] at g1; rw [g1]; rfl
        · exact absurd rfl hst'
        · simp only [LSt.is] at g1; rw [g1]; rfl
      have hend : (Instr.endLoop (w.heap.size + 1)).run P w' = .ok r'.pending { w' with heap := w'.heap.setIfInBounds (w.heap.size + 1) (.loop { r' with state := .exhausted }) } := by
        simp only [Instr.endLoop, Sem.run_bind, run_getLoop e2', Result.andThen_ok, hbusy, Bool.false_eq_true, if_false, Sem.run_pure, run_setLoop e2']
      have hat := at_setObj (w := w') (o := .loop r') hlt (.loop { r' with state := .exhausted })
      rw [← hB] at hat
      have hst4 := St.drop hst3.rel hl' rfl hLl' hat
      have hstall := (hst12.trans hst3).trans hst4
      have sfin := (s1.step hst3).step hst4
      have hs2 : Steps P (lone (b.atR act (.code (.rangeFunc f ps as bd) :: k)) cs w) (lone (b.atR { act with defers := [{ target := .collected w.heap.size, args := #[] }] ++ act.defers } ((r'.pending.map Item.code).toList ++ k)) cs { w' with heap := w'.heap.setIfInBounds (w.heap.size + 1) (.loop { r' with state := .exhausted }) }) :=
        Steps.trans hs (.one (stepR_endRangeFunc hend))
      rw [← hB] at hs2
      revert hs2 hstall sfin
      generalize ({ w' with heap := w'.heap.setIfInBounds (w.alloc (.deferred (some []))).heap.size (.loop { r' with state := .exhausted }) } : World) = wf
      intro hstall sfin hs2
      refine ⟨pd.getD .nm, a, hset h' l none, _, μ', _, hQ, ?_, hstall, sfin⟩
      cases pd with
      | none => simp only [Ex.is] at g2; rw [g2] at hs2; exact hs2
      | some e =>
        cases e with
        | nm => exact g2.elim
        | ret => simp only [Ex.is] at g2; rw [g2] at hs2; exact ⟨k, hs2⟩
        | exit id => simp only [Ex.is] at g2; rw [g2] at hs2; exact ⟨k, rfl, hs2⟩
    · cases hc; exact hE.elim
  · cases hc; exact hE.elim
end Mir

/- The mirror, part 24: functions, rounds; THE THEOREM. -/
set_option linter.unusedSimpArgs false
set_option linter.unusedVariables false
namespace Mir
open Go
variable {P : Program} {n base : Nat} {μ : Mu} {h : H} {w : World} {b : Frame} {cs : List Frame}

/-- What the mirror's program must be. -/
structure PgOk (P : Program) (pg : Pg) : Prop where
  mixed : P.follows .mixedOrders = true
  fns : ∀ f g, pg.fns f = some g → ∃ fn, P.funcs[f]? = some fn ∧ compF P fn = some g ∧ fn.name ≠ "runtime.NumGoroutine"
  known : ∀ f args v, pg.known f args = some v → ∀ μ h w args', VRs μ args args' → R P μ h w → Ran P f args'.toArray w (After P μ h w fun v' h' => v' = v ∧ h' = h)

theorem compF_spec {fn : Func} {g : Fn} (hc : compF P fn = some g) : ∃ c, fn.body = some c ∧ comp P fn.ntmps c = some g.body ∧ cRes P fn.ntmps fn.results.toList = some g.res ∧ g.n = fn.ntmps := by
  unfold compF at hc
  split at hc
  · cases hc
  · rename_i c hb
    split at hc
    · rename_i b r h1 h2
      cases hc
      exact ⟨c, hb, h1, h2, rfl⟩
    · cases hc

theorem start_tr {args : List V} {args' : List Value} (hv : VRs μ args args') (hl : args.length ≤ n) : TR μ n (start args) (args'.toArray ++ Array.replicate (n - args'.toArray.size) Go.undef) := by
  have hlen := hv.len
  refine ⟨by simp; omega, fun i => ?_⟩
  rw [Array.getD_eq_getD_getElem?]
  rcases Nat.lt_or_ge i args.length with hi | hi
  · obtain ⟨d, hd, hr⟩ := hv.get (List.getElem?_eq_getElem hi)
    have hi' : i < args'.toArray.size := by simp; omega
    rw [Array.getElem?_append_left hi']
    simp only [start, List.getElem?_eq_getElem hi, Option.getD_some]
    have : args'.toArray[i]? = some d := by simpa using hd
    rw [this]; exact hr
  · simp only [start, List.getElem?_eq_none hi, Option.getD_none]
    have hi' : args'.toArray.size ≤ i := by simp; omega
    rw [Array.getElem?_append_right hi']
    have : ((Array.replicate (n - args'.toArray.size) Go.undef)[i - args'.toArray.size]?).getD Go.undef = Go.undef := by
      rw [Array.getElem?_replicate]
      split <;> rfl
    rw [this]; exact vr_undef

theorem fn_sound {pg : Pg} (ok : PgOk P pg) {f : Nat} {args : List V} {Q : V → H → Prop} (hF : F pg (Snd P) (.fn f) args h Q) : Snd P (.fn f) args h Q := by
  intro μ w args' hv r
  simp only [F] at hF
  rcases hF with ⟨v, hk, hq⟩ | ⟨g, hg, hl, hE⟩
  · exact (ok.known f args v hk μ h w args' hv r).mono fun d w' => After.mono fun v' h' e => by rw [e.1, e.2]; exact hq
  · obtain ⟨fn, hf, hcf, hname⟩ := ok.fns f g hg
    obtain ⟨c, hb, hc, hres, hn⟩ := compF_spec hcf
    refine .inr ⟨?_, fun kind hkind cs => ?_⟩
    · simp [callFunc, hf, hname, hb]
    · let b : Frame := { (default : Frame) with fn := f, kind := kind }
      have hro : b.roundOf = none := rfl
      have henter : Frame.enter P f args'.toArray kind = b.atR { tmps := args'.toArray ++ Array.replicate (fn.ntmps - args'.toArray.size) Go.undef, defers := [] } [.code c] := by
        rw [Frame.atR_of_none hro]
        simp [Frame.enter, Frame.at, hf, hb, b]
      rw [hn] at hl
      have s0 : SR P fn.ntmps w.heap.size μ ⟨start args, []⟩ h { tmps := args'.toArray ++ Array.replicate (fn.ntmps - args'.toArray.size) Go.undef, defers := [] } w := ⟨r, start_tr hv hl, .nil⟩
      obtain ⟨e, a', h', act', μ', w', ⟨he, hdf⟩, ha, hst, hr⟩ := code_sound (b := b) (cs := cs) ok.mixed range_ok c hc (fun hb => absurd hro hb) [] (Nat.le_refl _) s0 hE
      rw [← henter] at ha
      have hfin : ∃ todo, Steps P (lone (Frame.enter P f args'.toArray kind) cs w) (lone { b.atR act' todo with mode := .returning } cs w') := by
        rcases he with rfl | rfl
        · exact ⟨[], Steps.trans ha (.one (stepR_end hro))⟩
        · obtain ⟨k', hs⟩ := ha
          exact ⟨.code .ret :: k', Steps.trans hs (.one (stepR_ret hro))⟩
      obtain ⟨todo, hs⟩ := hfin
      obtain ⟨μ2, h2, w2, ⟨vs, h3, hvs, hsub, hQ⟩, hs2, hle, hst2⟩ := unwind_steps rfl act'.defers { b.atR act' todo with mode := .returning } cs hr.d hst rfl rfl hdf
      obtain ⟨d, hd, hrun⟩ := results_sound hst2.rel (hr.t.mono hle) hres hvs
      exact ⟨d, w2, _, ⟨packed vs, h3, μ2, hQ, hd, hst2.sub hsub⟩, Steps.trans hs hs2, rfl, rfl, rfl, rfl, fn, hf, hrun⟩

theorem params_tr : ∀ (ps : List Nat) (args : List V) (args' : List Value) {t : Tm} {tmps : Array Value}, TR μ n t tmps → (∀ p ∈ ps, p < n) → VRs μ args args' → ps.length = args.length →
    TR μ n (params t ps args) ((ps.zip args').foldl (fun tmps (t, a) => tmps.setIfInBounds t a) tmps)
  | [], args, args', t, tmps, ht, _, _, _ => by simpa [params] using ht
  | p :: ps, args, args', t, tmps, ht, hp, hv, hl => by
    cases hv with
    | nil => simp at hl
    | cons h1 h2 =>
      simp only [params, List.zip_cons_cons, List.foldl_cons]
      exact params_tr ps _ _ (ht.set (hp p (by simp)) h1) (fun q hq => hp q (by simp [hq])) h2 (by simpa using hl)

theorem round_sound {pg : Pg} (ok : PgOk P pg) {l : Nat} {args : List V} {Q : V → H → Prop} (hF : F pg (Snd P) (.round l) args h Q) : Snd P (.round l) args h Q := by
  intro μ w args' L hv r hL
  simp only [F] at hF
  obtain ⟨t, ps, as, bd, pd, hl, hlen, hE⟩ := hF
  obtain ⟨L', x, e1, hx, lr, rfl, g1, g2, g3, g4, g5, g6, g7, g8, g9⟩ := r.at_ l _ hl
  rw [hL] at e1; cases e1
  have hyield : (Instr.yield L.B args'.toArray).run P w = .ok (.round L.B lr.fn ((lr.params.zip args'.toArray).foldl (fun tmps (t, a) => tmps.setIfInBounds t a) lr.tmps) lr.assign lr.body) w := by
    have : args'.toArray.size = lr.params.size := by rw [g3]; simp; rw [← hv.len, hlen]
    simp [Instr.yield, Sem.run_bind, run_getLoop hx, this]
  refine ⟨_, _, _, _, hyield, fun c cs => ?_⟩
  let b : Frame := { (default : Frame) with fn := lr.fn, kind := .normal, roundOf := some L.B }
  have hro : b.roundOf = some L.B := rfl
  have hkd : b.kind = .normal := rfl
  generalize htm : (lr.params.zip args'.toArray).foldl (fun tmps (t, a) => tmps.setIfInBounds t a) lr.tmps = tm
  have hround : Frame.round L.B lr.fn tm lr.assign lr.body .normal = b.atR { tmps := tm, defers := [] } [.code lr.assign, .beginRound, .code lr.body] := by
    simp [Frame.round, Frame.atR, b]
  have htr : TR μ lr.tmps.size (params t ps args) tm := by
    rw [← htm, g3]
    have := params_tr ps args args' (t := t) (tmps := lr.tmps) ⟨rfl, g4⟩ g5 hv hlen
    rw [← Array.foldl_toList]
    simpa using this
  have s0 : SR P lr.tmps.size w.heap.size μ ⟨params t ps args, []⟩ h { tmps := tm, defers := [] } w := ⟨r, htr, .nil⟩
  obtain ⟨e, a1, h1, act1, μ1, w1, ⟨he, _, t1, ps1, as1, bd1, pd1, hl1, hE1⟩, ha, hst, hr⟩ := code_sound (b := b) (cs := c :: cs) ok.mixed range_ok lr.assign g6 (fun _ => g8) [.beginRound, .code lr.body] (Nat.le_refl _) s0 hE
  subst he
  rw [← hround] at ha
  -- the round begins
  have hL1 := hst.le l _ hL
  obtain ⟨L1, x1, e1, hx1, lr1, rfl, k1, k2, k3, k4, k5, k6, k7, k8, k9⟩ := hst.rel.at_ l _ hl1
  rw [hL1] at e1; cases e1
  have hbegin : (Instr.beginRound L.B).run P w1 = .ok () { w1 with heap := w1.heap.setIfInBounds L.B (.loop { lr1 with state := .busy }) } := by
    simp only [LSt.is] at k1
    simp only [Instr.beginRound, Sem.run_bind, run_getLoop hx1, Result.andThen_ok, run_setLoop hx1, k1, Sem.run_pure]
  have hlt1 : L.B < w1.heap.size := (Array.getElem?_eq_some_iff.1 hx1).1
  have hat1 := at_setObj (w := w1) (o := .loop lr1) hlt1 (.loop { lr1 with state := .busy })
  have hst1 : St P μ1 h1 w1 μ1 (hadd h1 l (.loop t1 ps1 as1 bd1 .busy pd1)) { w1 with heap := w1.heap.setIfInBounds L.B (.loop { lr1 with state := .busy }) } :=
    St.put hst.rel hl1 rfl hL1 hat1.size hat1.here hat1.else_ hat1.rest ⟨_, rfl, rfl, k2, k3, k4, k5, k6, k7, k8, k9⟩ (fun _ _ => Kp.no fun _ _ _ e => by cases e)
  have s1 := hr.step hst1
  have hs1 := Steps.trans ha (.one (stepR_beginRound (k := [.code lr.body]) hro hbegin))
  -- the body
  obtain ⟨e2, a2, h2, act2, μ2, w2, ⟨_, t2, ps2, as2, bd2, st2, pd2, h3, hl2, hsub, hQ⟩, ha2, hst2, hr2⟩ := code_sound (b := b) (cs := c :: cs) ok.mixed range_ok lr.body g7 (fun _ => g9) [] (Nat.le_trans hst.size hst1.size) s1 hE1
  have hL2 := hst2.le l _ hL1
  obtain ⟨L2, x2, e1, hx2, lr2, rfl, q1, q2, q3, q4, q5, q6, q7, q8, q9⟩ := hst2.rel.at_ l _ hl2
  rw [hL2] at e1; cases e1
  have hlt2 : L.B < w2.heap.size := (Array.getElem?_eq_some_iff.1 hx2).1
  have fin : ∀ (jump : Option Code), Ex.is (endPd e2) jump → (endSt e2).is (if jump.isNone then .ready else .done) → jump.isNone = (e2 == .nm) →
      step P (lone (b.atR act2 []) (c :: cs) w2) = step P (lone (b.atR act2 []) (c :: cs) w2) →
      (∀ v w', (Instr.endRound L.B jump).run P w2 = .ok v w' → Steps P (lone (Frame.round L.B lr.fn tm lr.assign lr.body .normal) (c :: cs) w) (lone (c.finish v) cs w')) →
      ∃ v w', After P μ h w Q v w' ∧ Steps P (lone (Frame.round L.B lr.fn tm lr.assign lr.body .normal) (c :: cs) w) (lone (c.finish v) cs w') := by
    intro jump j1 j2 j3 _ hgo
    have hend : (Instr.endRound L.B jump).run P w2 = .ok (.bool jump.isNone) { w2 with heap := w2.heap.setIfInBounds L.B (.loop { lr2 with state := if jump.isNone then .ready else .done, pending := jump }) } := by
      simp only [Instr.endRound, Sem.run_bind, run_getLoop hx2, Result.andThen_ok, run_setLoop hx2, Sem.run_pure]
    have hat2 := at_setObj (w := w2) (o := .loop lr2) hlt2 (.loop { lr2 with state := if jump.isNone then .ready else .done, pending := jump })
    have hst3 : St P μ2 h2 w2 μ2 (hadd h2 l (.loop t2 ps2 as2 bd2 (endSt e2) (endPd e2))) { w2 with heap := w2.heap.setIfInBounds L.B (.loop { lr2 with state := if jump.isNone then .ready else .done, pending := jump }) } :=
      St.put hst2.rel hl2 rfl hL2 hat2.size hat2.here hat2.else_ hat2.rest ⟨_, rfl, j2, j1, q3, q4, q5, q6, q7, q8, q9⟩ (fun _ _ => Kp.no fun _ _ _ e => by cases e)
    exact ⟨_, _, ⟨.bool (e2 == .nm), h3, μ2, hQ, by rw [j3]; exact .bool _, (((hst.trans hst1).trans hst2).trans hst3).sub hsub⟩, hgo _ _ hend⟩
  cases e2 with
  | nm => exact fin none rfl rfl rfl rfl fun v w' hend => Steps.trans hs1 (Steps.trans ha2 (.one (stepR_round_end hro hkd hend)))
  | ret =>
    obtain ⟨k', hs2⟩ := ha2
    exact fin (some .ret) rfl rfl rfl rfl fun v w' hend => Steps.trans hs1 (Steps.trans hs2 (.one (stepR_round_ret hro hkd hend)))
  | exit id =>
    obtain ⟨k', hk', hs2⟩ := ha2
    exact fin (some (.exit id)) rfl rfl rfl rfl fun v w' hend => Steps.trans hs1 (Steps.trans hs2 (.one (stepR_round_exit hro hkd (by rw [hk']; rfl) hend)))

/-- THE THEOREM: what the mirror says of a call, the model does. -/
theorem sound {pg : Pg} (ok : PgOk P pg) {c : Callee} {args : List V} {Q : V → H → Prop} (hA : AC pg c args h Q) : Snd P c args h Q :=
  hA (Snd P) fun c args h Q hF => by
    cases c with
    | fn f => exact fn_sound ok hF
    | round l => exact round_sound ok hF

/-- A call that the mirror has told, in the model's words. -/
theorem calls_of {pg : Pg} (ok : PgOk P pg) {f : Nat} {g : Fn} (hg : pg.fns f = some g) {args : List V} {args' : List Value} {Q : V → H → Prop} (hA : AC pg (.fn f) args h Q) (hv : VRs μ args args') (r : R P μ h w) :
    Calls P f args'.toArray w fun e w' => ∃ d, e = .returned d ∧ After P μ h w Q d w' := by
  obtain ⟨fn, hf, hcf, hname⟩ := ok.fns f g hg
  obtain ⟨c, hb, _⟩ := compF_spec hcf
  rcases sound ok hA μ w args' hv r with ⟨v, w', hr, _⟩ | ⟨_, hent⟩
  · exfalso
    simp [callFunc, hf, hname, hb] at hr
  · intro cs
    obtain ⟨v, w', fr, hR, hs, hfn, hk, hm, hd, fn', hf', hres⟩ := hent .normal (.inl rfl) cs
    exact ⟨.returned v, w', fr, ⟨v, rfl, hR⟩, hs, hfn, hm, hd, hk, fn', hf', hres⟩
end Mir
