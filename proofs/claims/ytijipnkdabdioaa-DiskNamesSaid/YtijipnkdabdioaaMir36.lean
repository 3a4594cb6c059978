/- The mirror, part 36: string([]byte{c}), told without its block. -/
import Derived.Test.YtijipnkdabdioaaMir20
set_option linter.unusedSimpArgs false
set_option linter.unusedVariables false
namespace Mir
open Go
variable {P : Program} {μ μ' : Mu} {h h' : H} {w w' : World} {n base : Nat} {b : Frame} {act : Act} {k : List Item} {cs : List Frame} {ops : Array Oper} {i : Nat} {rest : List Nat} {o : Oper}
/-- What is told of a temporary may be forgotten. -/
theorem sr_forget {a : A} {t : Nat} {v : V} (s : SR P n base μ { a with t := put a.t (some t) v } h act w) (e : a.t t = .undef) : SR P n base μ a h act w :=
  ⟨s.rel, ⟨s.t.1, fun i => by
    by_cases c : i = t
    · subst c; rw [e]; exact .undef _
    · have := s.t.2 i
      simpa [put, upd, c] using this⟩, s.d⟩
theorem sr_heap {a : A} (s : SR P n base μ a h act w) (r : R P μ h' w) : SR P n base μ a h' act w := ⟨r, s.t, s.d⟩
/-- A read: neither memory nor the world turns. -/
theorem step_read {io : IOp} {a : A} {kk : RK} {v : V} (hf : Fit P n ops i io) (hk : io.k = .r kk) (s : SR P n base μ a h act w) (hg : guardOk a.t io.guard) (hw : wantedE a.t io.guard = true) (he : kk.ev (Opd.ev a.t) h = some v) :
    ∃ act', Steps P (lone (b.atR act (.inRegion ops (i :: rest) :: k)) cs w) (lone (b.atR act' (.inRegion ops rest :: k)) cs w) ∧ SR P n base μ { a with t := put a.t io.dst v } h act' w := by
  obtain ⟨o, ho, hd, hdn, hgu, hc⟩ := hf
  have hwd := guard_sound s hgu hg
  rcases hc with hc | hc
  · rw [hk] at hc
    obtain ⟨d, hv, hr⟩ := rk_sound (w := w) hc s.rho s.rel he o rfl
    refine ⟨act.put o.dst d, .one (step_val ho (hwd.trans hw) (not_defer hc (by intro f a e; cases e)) hr (.inl rfl)), ?_⟩
    rw [hd]
    exact s.put hdn hv
  · rw [hk] at hc; cases hc

/-- What is told, whatever is asked of each operation. -/
structure ToldX (F : IOp → Prop) (ops : Array Oper) (M : List Nat) (listed : Array Bool) (told : List IOp) : Prop where
  nodup : (told.map (·.id)).Nodup
  fit : ∀ io ∈ told, io.id < ops.size ∧ listed.getD io.id true = false ∧ F io
  all : ∀ i, i < ops.size → listed.getD i true = false → ∃ io ∈ told, io.id = i
  pairs : told.Pairwise fun x y => ordered M x.id y.id = true ∨ x.swaps y = true ∨ x.lets y = true
section
variable {F : IOp → Prop} {M : List Nat} {listed : Array Bool} {pre post : List IOp} {io : IOp}
theorem ToldX.next (hT : ToldX F ops M listed (pre ++ io :: post)) (hD : Down ops listed) (ho : ops[io.id]? = some o) (hall : ∀ e ∈ o.after, Region.binds .any e = true → listed.getD e.on false = true) :
    ToldX F ops M (listed.setIfInBounds io.id true) (pre ++ post) ∧ Down ops (listed.setIfInBounds io.id true) := by
  have hnd' := hT.nodup
  rw [List.map_append, List.map_cons] at hnd'
  have hsub : (pre ++ post).Sublist (pre ++ io :: post) := List.Sublist.append_left (List.sublist_cons_self _ _) _
  have hne : ∀ x ∈ pre ++ post, x.id ≠ io.id := by
    have h1 := (List.nodup_append.1 hnd')
    intro x hx e
    rcases List.mem_append.1 hx with hx | hx
    · exact h1.2.2 _ (List.mem_map.2 ⟨x, hx, rfl⟩) _ (List.mem_cons_self ..) e
    · exact (List.nodup_cons.1 h1.2.1).1 (e ▸ List.mem_map.2 ⟨x, hx, rfl⟩)
  refine ⟨⟨(hsub.map _).nodup hT.nodup, fun x hx => ?_, fun j hj hu => ?_, hT.pairs.sublist hsub⟩, by simp [hD.1], fun j oj hoj hl e he hb => getD_set_true ?_⟩
  · obtain ⟨h1, h2, h3⟩ := hT.fit x (hsub.subset hx)
    exact ⟨h1, by rw [getD_set_ne true (Ne.symm (hne x hx))]; exact h2, h3⟩
  · have hji : io.id ≠ j := fun e => by
      subst e
      have : io.id < listed.size := by rw [hD.1]; exact hj
      simp [this] at hu
    rw [getD_set_ne true hji] at hu
    obtain ⟨x, hx, hxj⟩ := hT.all j hj hu
    rcases List.mem_append.1 hx with hx | hx
    · exact ⟨x, List.mem_append_left _ hx, hxj⟩
    · rcases List.mem_cons.1 hx with rfl | hx
      · exact absurd hxj hji
      · exact ⟨x, List.mem_append_right _ hx, hxj⟩
  · by_cases hji : io.id = j
    · subst hji
      rw [ho] at hoj; cases hoj
      exact hall e he hb
    · rw [getD_set_ne false hji] at hl
      exact hD.2 j oj hoj hl e he hb
theorem ToldX.ahead (hT : ToldX F ops M listed (pre ++ io :: post)) (hM : MaskOk ops M) (hE : EdgesOk ops) (hD : Down ops listed) (hir : io.id ∈ Region.ready .any ops listed) : ∀ x ∈ pre, x.swaps io = true ∨ x.lets io = true := fun x hx => by
  rcases (List.pairwise_append.1 hT.pairs).2.2 x hx io (by simp) with h | h
  · have h1 := ready_down hM hE hD hir h
    obtain ⟨h2, h3, _⟩ := hT.fit x (by simp [hx])
    rw [getD_tf (by rw [hD.1]; exact h2), h1] at h3
    cases h3
  · exact h
end

/-- An operation of the region, or one that is told as a byte's text. -/
def FitX (P : Program) (n : Nat) (ops : Array Oper) (io : IOp) : Prop := Fit P n ops io.id io ∨ (∃ c y, io.k = .p (.byteStr c y)) ∧ cDst n io.dst = true
theorem byteStr_ev {c : Bool} {y : Opd} {ρ : Opd → V} {v : V} (e : (PK.byteStr c y).ev ρ = some v) : ∃ m, ρ y = .int .u8 m ∧ v = if c then .str [UInt8.ofNat m.toNat] else .undef := by
  simp only [PK.ev] at e
  split at e
  · cases e; exact ⟨_, ‹_›, rfl⟩
  · cases e
theorem ready_runX {y : IOp} {post : List IOp} {K : A → H → Prop} (hl : y.k.light = true) : ∀ (pre : List IOp) {W : Reads} {a : A} {h : H} {act : Act} {μ : Mu} {w : World}, (∀ x ∈ pre, x.swaps y = true ∨ x.lets y = true) → (∀ x ∈ pre, FitX P n ops x) →
    (b.roundOf ≠ none → ∀ x ∈ pre, ∀ f a, x.k ≠ .h (.dfr f a)) → SR P n base μ a h act w → drawE (Snd P) (pre ++ y :: post) W a h K → Ready y a
  | [], W, a, h, act, μ, w, _, _, _, _, hE => by rw [List.nil_append, drawE_cons] at hE; exact ready_of hl hE
  | x :: pre, W, a, h, act, μ, w, hs, hF, hnd, s, hE => by
    rw [List.cons_append, drawE_cons] at hE
    rcases hF x (by simp) with hf | ⟨⟨c, z, hk⟩, hd⟩
    · obtain ⟨W', a', h', act', μ', w', ⟨⟨u, hu⟩, _, hK⟩, _, _, hr⟩ := step_do (b := b) (k := []) (cs := []) (rest := []) hf s (fun hb => hnd hb x (by simp)) (doE_with snd_mono hE)
      have h1 := ready_runX hl pre (fun z hz => hs z (by simp [hz])) (fun z hz => hF z (by simp [hz])) (fun hb z hz => hnd hb z (by simp [hz])) hr hK
      exact (Ready.put (lets_apart (hs x (by simp)))).1 (Ready.of_t (a := a') (a' := { a with t := put a.t x.dst u }) hu.symm h1)
    · by_cases hw : wantedE a.t x.guard = true
      · obtain ⟨_, v, e, hK⟩ := (doE_p hw hk).1 hE
        obtain ⟨d, hv⟩ : ∃ d, VR μ v d := by
          obtain ⟨m, _, rfl⟩ := byteStr_ev e
          cases c
          · exact ⟨Go.undef, .undef _⟩
          · exact ⟨_, .str _⟩
        have h1 := ready_runX hl pre (fun z hz => hs z (by simp [hz])) (fun z hz => hF z (by simp [hz])) (fun hb z hz => hnd hb z (by simp [hz])) (s.put hd hv) hK
        exact (Ready.put (lets_apart (hs x (by simp)))).1 h1
      · obtain ⟨_, hK⟩ := (doE_un hw).1 hE
        have h1 := ready_runX hl pre (fun z hz => hs z (by simp [hz])) (fun z hz => hF z (by simp [hz])) (fun hb z hz => hnd hb z (by simp [hz])) (s.put hd vr_undef) hK
        exact (Ready.put (lets_apart (hs x (by simp)))).1 h1

/-! ### The two that are told as one -/
section
variable (P) (n) (ops) (M : List Nat) (i j t : Nat) (x : Opd) (g : Option (Nat × Bool))
def FitF (io : IOp) : Prop := fuseOk M i j t x g io = true ∧
  ((io.id = j ∧ io.k = .p (.byteStr false x) ∧ io.guard = g ∧ io.dst = some t ∧ Fit P n ops j { io with k := .a (.mkSl [.int .u8 0] 1 1 [(0, 1, x)]) }) ∨
   (io.id = i ∧ io.k = .p (.byteStr true x) ∧ io.guard = g ∧ Fit P n ops i { io with k := .r (.toStr (.tmp t)) }) ∨
   (io.id ≠ i ∧ io.id ≠ j ∧ Fit P n ops io.id io))
def Inv1 (base : Nat) (μ : Mu) (a : A) (h : H) (act : Act) (w : World) : Prop :=
  (∃ bb m, h bb = none ∧ a.t t = .undef ∧ Opd.ev a.t x = .int .u8 m ∧ wantedE a.t g = true ∧ SR P n base μ { a with t := put a.t (some t) (.sl bb 0 1 1) } (hadd h bb (.cells [.int .u8 m] false)) act w) ∨
  (wantedE a.t g = false ∧ SR P n base μ a h act w)
end
section
variable {M : List Nat} {i j t : Nat} {x : Opd} {g : Option (Nat × Bool)} {a : A} {io : IOp}
theorem Inv1.sr (I : Inv1 P n t x g base μ a h act w) : SR P n base μ a h act w := by
  rcases I with ⟨bb, m, hb, hu, _, _, s⟩ | ⟨_, s⟩
  · exact sr_heap (sr_forget s hu) (s.rel.sub (sub_hadd hb))
  · exact s
theorem fit_dst (f : Fit P n ops i io) : cDst n io.dst = true := by
  obtain ⟨o, _, hd, hdn, _⟩ := f
  rw [hd]; exact hdn
theorem FitF.fitX (f : FitF P n ops M i j t x g io) : FitX P n ops io := by
  rcases f.2 with ⟨_, hk, _, _, f⟩ | ⟨_, hk, _, f⟩ | ⟨_, _, f⟩
  · exact .inr ⟨⟨_, _, hk⟩, by have e := fit_dst f; exact e⟩
  · exact .inr ⟨⟨_, _, hk⟩, by have e := fit_dst f; exact e⟩
  · exact .inl f
theorem FitF.looks (f : FitF P n ops M i j t x g io) : io.blind (some t) := by
  intro y e
  cases e
  have := f.1
  simp only [fuseOk, Bool.and_eq_true, Bool.not_eq_true'] at this
  intro hm
  have h1 := this.1
  rw [List.contains_iff_mem.2 hm] at h1
  cases h1
theorem FitF.apart (f : FitF P n ops M i j t x g io) (hj : io.id ≠ j) : io.dst ≠ some t ∧ (ordered M io.id j = true ∨ ∀ d, io.dst = some d → tmpOf x ≠ some d ∧ ∀ y c, g = some (y, c) → y ≠ d) := by
  have := f.1
  simp only [fuseOk, Bool.and_eq_true, Bool.or_eq_true, beq_iff_eq, bne_iff_ne] at this
  rcases this.2 with e | ⟨h1, h2⟩
  · exact absurd e hj
  · refine ⟨h1, h2.imp id fun h2 d hd => ?_⟩
    rw [hd] at h2
    simp only [Bool.and_eq_true, bne_iff_ne] at h2
    refine ⟨h2.1, fun y c e => ?_⟩
    have := h2.2
    rw [e] at this
    simpa using this
theorem keep_x {d : Option Nat} {v : V} {tm : Tm} (hd : ∀ z, d = some z → tmpOf x ≠ some z) : Opd.ev (put tm d v) x = Opd.ev tm x := by
  cases d with
  | none => rfl
  | some d =>
    cases x with
    | tmp y =>
      have : y ≠ d := fun e => hd d rfl (by simp [tmpOf, e])
      simp [Opd.ev, put, upd, this]
    | _ => rfl
theorem keep_g {d : Option Nat} {v : V} {tm : Tm} (hd : ∀ z, d = some z → ∀ y c, g = some (y, c) → y ≠ z) : wantedE (put tm d v) g = wantedE tm g := by
  cases d with
  | none => rfl
  | some d =>
    cases g with
    | none => rfl
    | some yc =>
      obtain ⟨y, c⟩ := yc
      have : y ≠ d := hd d rfl y c rfl
      simp [wantedE, put, upd, this]
theorem put_t {d : Option Nat} {v : V} {tm : Tm} (hd : d ≠ some t) : put tm d v t = tm t := by
  cases d with
  | none => rfl
  | some d =>
    have : t ≠ d := fun e => hd (by rw [e])
    simp [put, upd, this]
theorem getD_ft {listed : Array Bool} {i : Nat} (h : listed.getD i true = false) : listed.getD i false = false := by
  rcases Nat.lt_or_ge i listed.size with hi | hi
  · rw [getD_tf hi] at h; exact h
  · simp [hi]

theorem linearise_one {fuel tt : Nat} {listed : Array Bool} (hi : (Region.ready .any ops listed)[tt % (Region.ready .any ops listed).length]? = some i) :
    Region.linearise.go .any ops (fuel + 1) tt listed [] = i :: Region.linearise.go .any ops fuel (tt / (Region.ready .any ops listed).length) (listed.setIfInBounds i true) [] := by
  have hgo : Region.linearise.go .any ops (fuel + 1) tt listed [] = match (Region.ready .any ops listed)[tt % (Region.ready .any ops listed).length]? with
    | some i => Region.linearise.go .any ops fuel (tt / (Region.ready .any ops listed).length) (listed.setIfInBounds i true) [i]
    | none => [].reverse := rfl
  rw [hgo, hi]
  simp only
  rw [linearise_go_acc, List.reverse_singleton, List.singleton_append]
theorem some_next {tt : Nat} {listed : Array Bool} (h : Region.ready .any ops listed ≠ []) : ∃ i, (Region.ready .any ops listed)[tt % (Region.ready .any ops listed).length]? = some i ∧ i ∈ Region.ready .any ops listed := by
  have hlt : tt % (Region.ready .any ops listed).length < (Region.ready .any ops listed).length := Nat.mod_lt _ (List.length_pos_iff.2 h)
  exact ⟨_, List.getElem?_eq_getElem hlt, List.getElem_mem hlt⟩

/-- An operation that the machine takes is told first. -/
theorem take_front {listed : Array Bool} {told : List IOp} {W : Reads} {K : A → H → Prop} {y : Nat} (hM : MaskOk ops M) (hE : EdgesOk ops) (hT : ToldX (FitF P n ops M i j t x g) ops M listed told) (hD : Down ops listed)
    (hnd : b.roundOf ≠ none → ∀ io ∈ told, ∀ f a, io.k ≠ .h (.dfr f a)) (s : SR P n base μ a h act w) (hir : y ∈ Region.ready .any ops listed) (hd : drawE (Snd P) told W a h K) :
    ∃ io pre post, io.id = y ∧ told = pre ++ io :: post ∧ y < ops.size ∧ listed.getD y false = false ∧ FitF P n ops M i j t x g io ∧ (b.roundOf ≠ none → ∀ f a, io.k ≠ .h (.dfr f a)) ∧
      (doE (Snd P) io W a h fun W' a' h' => drawE (Snd P) (pre ++ post) W' a' h' K) ∧
      ToldX (FitF P n ops M i j t x g) ops M (listed.setIfInBounds y true) (pre ++ post) ∧ Down ops (listed.setIfInBounds y true) ∧ (b.roundOf ≠ none → ∀ io ∈ pre ++ post, ∀ f a, io.k ≠ .h (.dfr f a)) := by
  obtain ⟨hun, o, ho, hall⟩ := mem_ready.1 hir
  have hlt : y < ops.size := (Array.getElem?_eq_some_iff.1 ho).1
  obtain ⟨io, hio, rfl⟩ := hT.all y hlt hun
  obtain ⟨pre, post, rfl⟩ := List.append_of_mem hio
  have hsw := hT.ahead hM hE hD hir
  obtain ⟨h1, h2⟩ := hT.next hD ho hall
  refine ⟨io, pre, post, rfl, rfl, hlt, getD_ft hun, (hT.fit io (by simp)).2.2, fun hb => hnd hb io (by simp), ?_, h1, h2, fun hb z hz => hnd hb z (by
    rcases List.mem_append.1 hz with hz | hz
    · exact List.mem_append_left _ hz
    · exact List.mem_append_right _ (List.mem_cons_of_mem _ hz))⟩
  by_cases hli : io.k.light = true
  · exact front2 pre hsw s.rel.Fin (ready_runX (b := b) hli pre hsw (fun x hx => (hT.fit x (by simp [hx])).2.2.fitX) (fun hb x hx => hnd hb x (by simp [hx])) s hd) hd
  · exact front snd_mono pre (fun x hx => (hsw x hx).resolve_right fun e => hli (by simp only [IOp.lets, Bool.and_eq_true] at e; exact e.2)) s.rel.Fin hd

abbrev Came (P : Program) (n base : Nat) (b : Frame) (k : List Item) (cs : List Frame) (ops : Array Oper) (is : List Nat) (μ : Mu) (h : H) (act : Act) (w : World) (K : A → H → Prop) : Prop :=
  ∃ a' h' act' μ' w', K a' h' ∧ Steps P (lone (b.atR act (.inRegion ops is :: k)) cs w) (lone (b.atR act' k) cs w') ∧ St P μ h w μ' h' w' ∧ SR P n base μ' a' h' act' w'

theorem getD_set_self {listed : Array Bool} {y : Nat} (h : y < listed.size) : (listed.setIfInBounds y true).getD y false = true := by simp [h]
/-- The bytes were made; they are still to be read. -/
theorem fuse1 (hM : MaskOk ops M) (hE : EdgesOk ops) (hi : i < ops.size) {K : A → H → Prop} : ∀ (fuel tt : Nat) (listed : Array Bool) (told : List IOp) {W : Reads} {a : A} {h : H} {act : Act} {μ : Mu} {w : World}, told.length ≤ fuel → ToldX (FitF P n ops M i j t x g) ops M listed told → Down ops listed →
    listed.getD j false = true → listed.getD i true = false →
    (b.roundOf ≠ none → ∀ io ∈ told, ∀ f a, io.k ≠ .h (.dfr f a)) → Inv1 P n t x g base μ a h act w → drawE (Snd P) told W a h K →
    Came P n base b k cs ops (Region.linearise.go .any ops fuel tt listed []) μ h act w K := by
  intro fuel
  induction fuel with
  | zero =>
    intro tt listed told W a h act μ w hl hT hD hlj hli hnd I hd
    have : told = [] := List.length_eq_zero_iff.1 (by omega)
    subst this
    obtain ⟨_, h1, _⟩ := hT.all i hi hli
    cases h1
  | succ fuel ih =>
    intro tt listed told W a h act μ w hl hT hD hlj hli hnd I hd
    obtain ⟨y, hy, hir⟩ := some_next (tt := tt) (some_ready hE hD i hi hli)
    obtain ⟨io, pre, post, rfl, rfl, hlt, hun, hF, hnd1, hfr, hT', hD', hnd'⟩ := take_front (b := b) hM hE hT hD hnd I.sr hir hd
    have hlen : (pre ++ post).length ≤ fuel := by simp at hl ⊢; omega
    have hsz : io.id < listed.size := by rw [hD.1]; exact hlt
    have hidj : io.id ≠ j := fun e => by rw [e, hlj] at hun; cases hun
    obtain ⟨hdt, hap⟩ := hF.apart hidj
    have hap : ∀ d, io.dst = some d → tmpOf x ≠ some d ∧ ∀ y c, g = some (y, c) → y ≠ d := hap.resolve_left fun e => by
      have := listed_down hM hE hD _ _ hlj e
      rw [this] at hun; cases hun
    have hlj' : (listed.setIfInBounds io.id true).getD j false = true := getD_set_true hlj
    rw [linearise_one hy]
    rcases hF.2 with ⟨e, _⟩ | ⟨hid, hk, hg, hfit⟩ | ⟨hid, _, hfit⟩
    · exact absurd e hidj
    · -- the read
      have hfit : Fit P n ops io.id { io with k := .r (.toStr (.tmp t)) } := by rw [hid]; exact hfit
      have hrest : Told P n ops M (listed.setIfInBounds io.id true) (pre ++ post) := ⟨hT'.nodup, fun z hz => by
        obtain ⟨h1, h2, h3⟩ := hT'.fit z hz
        refine ⟨h1, h2, ?_⟩
        rcases h3.2 with ⟨e, _⟩ | ⟨e, _⟩ | ⟨_, _, f⟩
        · rw [e] at h2; rw [getD_ft h2] at hlj'; cases hlj'
        · have := getD_set_self hsz
          rw [e, ← hid] at h2; rw [getD_ft h2] at this; cases this
        · exact f, hT'.all, hT'.pairs⟩
      by_cases hw : wantedE a.t io.guard = true
      · obtain ⟨hok, v, hv, hK⟩ := (doE_p hw hk).1 hfr
        obtain ⟨m, hx, rfl⟩ := byteStr_ev hv
        simp only [if_true] at hv hK
        rcases I with ⟨bb, m', hb, hu, hx', hwg, s⟩ | ⟨hwg, _⟩
        · rw [hx] at hx'; cases hx'
          obtain ⟨g1, g2⟩ := blind_guard hF.looks a.t (.sl bb 0 1 1)
          have hev : (RK.toStr (.tmp t)).ev (Opd.ev (put a.t (some t) (.sl bb 0 1 1))) (hadd h bb (.cells [.int .u8 m] false)) = some (.str [UInt8.ofNat m.toNat]) := by
            simp [RK.ev, Opd.ev, put, upd, hadd, hset, bytesOf]
          obtain ⟨act', hs, hr⟩ := step_read (b := b) (k := k) (cs := cs) (rest := Region.linearise.go .any ops fuel (tt / (Region.ready .any ops listed).length) (listed.setIfInBounds io.id true) []) (io := { io with k := .r (.toStr (.tmp t)) }) hfit rfl s (g2.2 hok) (by rw [← hw]; exact g1) hev
          have hr1 : SR P n base μ { ({ a with t := put a.t io.dst (.str [UInt8.ofNat m.toNat]) } : A) with t := put (put a.t io.dst (.str [UInt8.ofNat m.toNat])) (some t) (.sl bb 0 1 1) } (hadd h bb (.cells [.int .u8 m] false)) act' w := by
            rw [← put_comm a.t (d := some t) (e := io.dst) (fun z e e' => hdt (by rw [e', e]))]
            exact hr
          have hr2 : SR P n base μ { a with t := put a.t io.dst (.str [UInt8.ofNat m.toNat]) } h act' w := sr_heap (sr_forget hr1 (by simp only; rw [put_t hdt]; exact hu)) (s.rel.sub (sub_hadd hb))
          obtain ⟨a2, h2, act2, μ2, w2, hK2, hs2, hst2, hr2⟩ := draw_steps (b := b) (k := k) (cs := cs) hM hE fuel _ _ _ hlen hrest hD' hnd' hr2 hK
          exact ⟨a2, h2, act2, μ2, w2, hK2, Steps.trans hs hs2, hst2, hr2⟩
        · rw [hg, hwg] at hw; cases hw
      · obtain ⟨hok, hK⟩ := (doE_un hw).1 hfr
        obtain ⟨act', hs, hr⟩ := step_un (b := b) (k := k) (cs := cs) (rest := Region.linearise.go .any ops fuel (tt / (Region.ready .any ops listed).length) (listed.setIfInBounds io.id true) []) (io := { io with k := .r (.toStr (.tmp t)) }) hfit I.sr hok hw
        obtain ⟨a2, h2, act2, μ2, w2, hK2, hs2, hst2, hr2⟩ := draw_steps (b := b) (k := k) (cs := cs) hM hE fuel _ _ _ hlen hrest hD' hnd' hr hK
        exact ⟨a2, h2, act2, μ2, w2, hK2, Steps.trans hs hs2, hst2, hr2⟩
    · -- another
      have hli' : (listed.setIfInBounds io.id true).getD i true = false := by rw [getD_set_ne true hid]; exact hli
      rcases I with ⟨bb, m, hb, hu, hx, hwg, s⟩ | ⟨hwg, s⟩
      · have hE2 : doE (Snd P) io W { a with t := put a.t (some t) (.sl bb 0 1 1) } h fun W' a2 h' => ∃ a', a2 = { a' with t := put a'.t (some t) (.sl bb 0 1 1) } ∧ (∃ u, a'.t = put a.t io.dst u) ∧ drawE (Snd P) (pre ++ post) W' a' h' K :=
          (doE_put snd_mono hF.looks (fun z e e' => hdt (by rw [e', ← e]))).2 (doE_mono snd_mono (fun W1 a1 h1 q => ⟨a1, rfl, q.1, q.2.2⟩) (doE_with snd_mono hfr))
        obtain ⟨W', a2, h', act', μ', w', ⟨a', rfl, ⟨u, hu'⟩, hK⟩, hs, hst, hr⟩ := step_do (b := b) (k := k) (cs := cs) (rest := Region.linearise.go .any ops fuel (tt / (Region.ready .any ops listed).length) (listed.setIfInBounds io.id true) []) hfit (sr_heap s (s.rel.sub (sub_hadd hb))) hnd1 hE2
        obtain ⟨hb', st'⟩ := hst.frame hb s.rel
        obtain ⟨a3, h3, act3, μ3, w3, hK3, hs3, hst3, hr3⟩ := ih _ _ _ hlen hT' hD' hlj' hli' hnd' (.inl ⟨bb, m, hb', by rw [hu', put_t hdt]; exact hu, by rw [hu', keep_x fun z e => (hap z e).1]; exact hx, by rw [hu', keep_g fun z e => (hap z e).2]; exact hwg, sr_heap hr st'.rel⟩) hK
        exact ⟨a3, h3, act3, μ3, w3, hK3, Steps.trans hs hs3, hst.trans hst3, hr3⟩
      · obtain ⟨W', a', h', act', μ', w', ⟨⟨u, hu'⟩, _, hK⟩, hs, hst, hr⟩ := step_do (b := b) (k := k) (cs := cs) (rest := Region.linearise.go .any ops fuel (tt / (Region.ready .any ops listed).length) (listed.setIfInBounds io.id true) []) hfit s hnd1 (doE_with snd_mono hfr)
        obtain ⟨a3, h3, act3, μ3, w3, hK3, hs3, hst3, hr3⟩ := ih _ _ _ hlen hT' hD' hlj' hli' hnd' (.inr ⟨by rw [hu', keep_g fun z e => (hap z e).2]; exact hwg, hr⟩) hK
        exact ⟨a3, h3, act3, μ3, w3, hK3, Steps.trans hs hs3, hst.trans hst3, hr3⟩

/-- The bytes are still to be made. -/
theorem fuse0 (hM : MaskOk ops M) (hE : EdgesOk ops) (hi : i < ops.size) (hj : j < ops.size) (hij : i ≠ j) (hji : ordered M j i = true) {K : A → H → Prop} : ∀ (fuel tt : Nat) (listed : Array Bool) (told : List IOp) {W : Reads} {a : A} {h : H} {act : Act} {μ : Mu} {w : World}, told.length ≤ fuel → ToldX (FitF P n ops M i j t x g) ops M listed told → Down ops listed →
    listed.getD j true = false → 
    (b.roundOf ≠ none → ∀ io ∈ told, ∀ f a, io.k ≠ .h (.dfr f a)) → SR P n base μ a h act w → drawE (Snd P) told W a h K →
    Came P n base b k cs ops (Region.linearise.go .any ops fuel tt listed []) μ h act w K := by
  intro fuel
  induction fuel with
  | zero =>
    intro tt listed told W a h act μ w hl hT hD hlj hnd s hd
    have : told = [] := List.length_eq_zero_iff.1 (by omega)
    subst this
    obtain ⟨_, h1, _⟩ := hT.all j hj hlj
    cases h1
  | succ fuel ih =>
    intro tt listed told W a h act μ w hl hT hD hlj hnd s hd
    obtain ⟨y, hy, hir⟩ := some_next (tt := tt) (some_ready hE hD j hj hlj)
    obtain ⟨io, pre, post, rfl, rfl, hlt, hun, hF, hnd1, hfr, hT', hD', hnd'⟩ := take_front (b := b) hM hE hT hD hnd s hir hd
    have hlen : (pre ++ post).length ≤ fuel := by simp at hl ⊢; omega
    have hsz : io.id < listed.size := by rw [hD.1]; exact hlt
    have hili : listed.getD i true = false := by
      rw [getD_tf (by rw [hD.1]; exact hi)]
      cases e : listed.getD i false with
      | false => rfl
      | true => have := listed_down hM hE hD _ _ e hji; rw [getD_ft hlj] at this; cases this
    rw [linearise_one hy]
    rcases hF.2 with ⟨hid, hk, hg, hdst, hfit⟩ | ⟨hid, _⟩ | ⟨hid, hidj, hfit⟩
    · -- the bytes are made
      have hfit : Fit P n ops io.id { io with k := .a (.mkSl [.int .u8 0] 1 1 [(0, 1, x)]) } := by rw [hid]; exact hfit
      have hlj' : (listed.setIfInBounds io.id true).getD j false = true := by rw [← hid]; exact getD_set_self hsz
      have hli' : (listed.setIfInBounds io.id true).getD i true = false := by rw [getD_set_ne true (by rw [hid]; exact Ne.symm hij)]; exact hili
      have hbl := hF.looks
      by_cases hw : wantedE a.t io.guard = true
      · obtain ⟨hok, v, hv, hK⟩ := (doE_p hw hk).1 hfr
        obtain ⟨m, hx, rfl⟩ := byteStr_ev hv
        simp only [if_false, Bool.false_eq_true] at hv hK
        have hsE : stepE (Snd P) { io with k := .a (.mkSl [.int .u8 0] 1 1 [(0, 1, x)]) } a h fun v a' h' => ∃ bb, h bb = none ∧ a' = { a with t := put a.t (some t) (.sl bb 0 1 1) } ∧ h' = hadd h bb (.cells [.int .u8 m] false) := by
          simp only [stepE, AK.ev, fillIn, hx, V.cells, zeros, List.replicate, List.flatten, List.append_nil, List.length_cons, List.length_nil]
          simp only [V.flat, List.all_cons, List.all_nil, Bool.and_self, and_self, Nat.zero_add, Nat.le_refl, if_true, List.take_zero, List.nil_append, List.drop_succ_cons, List.drop_zero, List.append_nil, Option.map_some]
          exact fun bb hb => ⟨bb, hb, by rw [hdst], rfl⟩
        obtain ⟨v, a', h', act', μ', w', ⟨bb, hb, rfl, rfl⟩, hs, hst, hr⟩ := step_wanted (b := b) (k := k) (cs := cs) (rest := Region.linearise.go .any ops fuel (tt / (Region.ready .any ops listed).length) (listed.setIfInBounds io.id true) []) (io := { io with k := .a (.mkSl [.int .u8 0] 1 1 [(0, 1, x)]) }) hfit s hok hw (fun _ f a e => by cases e) hsE
        have hI : Inv1 P n t x g base μ' { a with t := put a.t io.dst .undef } h act' w' := by
          refine .inl ⟨bb, m, hb, by simp [hdst, put, upd], ?_, ?_, ?_⟩
          · have := blind_opds hbl a.t .undef x (by rw [hk]; simp [Kind.opds, PK.opds])
            simp only [hdst]
            rw [this]; exact hx
          · rw [← hg, hdst]
            exact ((blind_guard hbl a.t .undef).1).trans hw
          · have : put (put a.t io.dst .undef) (some t) (.sl bb 0 1 1) = put a.t (some t) (.sl bb 0 1 1) := by
              rw [hdst]; funext z; simp only [put, upd]; split <;> rfl
            simp only [this]
            exact hr
        obtain ⟨a3, h3, act3, μ3, w3, hK3, hs3, hst3, hr3⟩ := fuse1 (b := b) (k := k) (cs := cs) hM hE hi fuel _ _ _ hlen hT' hD' hlj' hli' hnd' hI hK
        exact ⟨a3, h3, act3, μ3, w3, hK3, Steps.trans hs hs3, (hst.sub (sub_hadd hb)).trans hst3, hr3⟩
      · obtain ⟨hok, hK⟩ := (doE_un hw).1 hfr
        obtain ⟨act', hs, hr⟩ := step_un (b := b) (k := k) (cs := cs) (rest := Region.linearise.go .any ops fuel (tt / (Region.ready .any ops listed).length) (listed.setIfInBounds io.id true) []) (io := { io with k := .a (.mkSl [.int .u8 0] 1 1 [(0, 1, x)]) }) hfit s hok hw
        have hI : Inv1 P n t x g base μ { a with t := put a.t io.dst (.tup []) } h act' w := by
          refine .inr ⟨?_, hr⟩
          rw [← hg, hdst]
          have := (blind_guard hbl a.t (.tup [])).1
          simp only [this]
          simpa using hw
        obtain ⟨a3, h3, act3, μ3, w3, hK3, hs3, hst3, hr3⟩ := fuse1 (b := b) (k := k) (cs := cs) hM hE hi fuel _ _ _ hlen hT' hD' hlj' hli' hnd' hI hK
        exact ⟨a3, h3, act3, μ3, w3, hK3, Steps.trans hs hs3, hst3, hr3⟩
    · exfalso
      have := ready_down hM hE hD hir (by rw [hid]; exact hji)
      rw [getD_ft hlj] at this; cases this
    · obtain ⟨W', a', h', act', μ', w', hK, hs, hst, hr⟩ := step_do (b := b) (k := k) (cs := cs) (rest := Region.linearise.go .any ops fuel (tt / (Region.ready .any ops listed).length) (listed.setIfInBounds io.id true) []) hfit s hnd1 hfr
      obtain ⟨a3, h3, act3, μ3, w3, hK3, hs3, hst3, hr3⟩ := ih _ _ _ hlen hT' hD' (by rw [getD_set_ne true hidj]; exact hlj) hnd' hr hK
      exact ⟨a3, h3, act3, μ3, w3, hK3, Steps.trans hs hs3, hst.trans hst3, hr3⟩
end

/-! ### What has been checked -/
theorem findMk_spec {t j : Nat} {x : Opd} : ∀ {l : List IOp} {s : Nat}, findMk l t s = some (j, x) → ∃ m o, j = s + m ∧ l[m]? = some o ∧ o.k = .a (.mkSl [.int .u8 0] 1 1 [(0, 1, x)]) ∧ o.dst = some t
  | [], s, h => by simp [findMk] at h
  | o :: l, s, h => by
    simp only [findMk] at h
    have hrec : findMk l t (s + 1) = some (j, x) → ∃ m o', j = s + m ∧ (o :: l)[m]? = some o' ∧ o'.k = .a (.mkSl [.int .u8 0] 1 1 [(0, 1, x)]) ∧ o'.dst = some t := fun h => by
      obtain ⟨m, o', e, h1, h2⟩ := findMk_spec h
      exact ⟨m + 1, o', by omega, by simpa using h1, h2⟩
    split at h
    · rename_i y hk
      split at h
      · rename_i hd
        cases h
        exact ⟨0, o, by simp, by simp, hk, hd⟩
      · exact hrec h
    · exact hrec h
theorem findTx_spec {all : List IOp} {i j t : Nat} {x : Opd} : ∀ {l : List IOp} {s : Nat}, findTx all l s = some (i, j, t, x) →
    (∃ m o, i = s + m ∧ l[m]? = some o ∧ o.k = .r (.toStr (.tmp t))) ∧ ∃ o, all[j]? = some o ∧ o.k = .a (.mkSl [.int .u8 0] 1 1 [(0, 1, x)]) ∧ o.dst = some t
  | [], s, h => by simp [findTx] at h
  | o :: l, s, h => by
    simp only [findTx] at h
    have hrec : findTx all l (s + 1) = some (i, j, t, x) → (∃ m o', i = s + m ∧ (o :: l)[m]? = some o' ∧ o'.k = .r (.toStr (.tmp t))) ∧ ∃ o, all[j]? = some o ∧ o.k = .a (.mkSl [.int .u8 0] 1 1 [(0, 1, x)]) ∧ o.dst = some t := fun h => by
      obtain ⟨⟨m, o', e, h1⟩, h2⟩ := findTx_spec h
      exact ⟨⟨m + 1, o', by omega, by simpa using h1⟩, h2⟩
    split at h
    · rename_i y hk
      split at h
      · rename_i hm
        cases h
        obtain ⟨m, o', e, h1, h2⟩ := findMk_spec hm
        exact ⟨⟨0, o, by simp, by simp, hk⟩, o', by rw [e, Nat.zero_add]; exact h1, h2⟩
      · exact hrec h
    · exact hrec h

theorem cFuse_spec {told : List IOp} (hc : cFuse P n ops = some told) :
    ∃ i j t x g, i < ops.size ∧ j < ops.size ∧ i ≠ j ∧ ordered (masks ops.toList []) j i = true ∧ EdgesOk ops ∧ MaskOk ops (masks ops.toList []) ∧ ToldX (FitF P n ops (masks ops.toList []) i j t x g) ops (masks ops.toList []) (Array.replicate ops.size false) told ∧ told.length ≤ ops.size := by
  unfold cFuse at hc
  split at hc
  · cases hc
  · rename_i l0 hl0
    split at hc
    · cases hc
    · rename_i i j t x hf
      split at hc
      case h_2 => cases hc
      rename_i oi oj hoi hoj
      simp only at hc
      split at hc
      case isFalse => cases hc
      rename_i hchk
      simp only [Bool.and_eq_true, decide_eq_true_eq, bne_iff_ne, beq_iff_eq] at hchk
      obtain ⟨⟨⟨⟨⟨⟨⟨⟨⟨hE, hn⟩, hall⟩, hle⟩, hlt⟩, hp⟩, hij⟩, hgg⟩, hji⟩, hfu⟩ := hchk
      simp only [List.all_eq_true, decide_eq_true_eq] at hall hlt hfu
      obtain ⟨⟨m, oi', hm, hoi', hki⟩, oj', hoj', hkj, hdj⟩ := findTx_spec hf
      rw [Nat.zero_add] at hm; subst hm
      rw [hoi] at hoi'; cases hoi'
      rw [hoj] at hoj'; cases hoj'
      have hfit := ops_fit hl0
      have hli : i < l0.length := (List.getElem?_eq_some_iff.1 hoi).1
      have hlj : j < l0.length := (List.getElem?_eq_some_iff.1 hoj).1
      generalize hl1 : (l0.set j { oj with k := .p (.byteStr false x) }).set i { oi with k := .p (.byteStr true x) } = l1 at hc hall hle hlt hp hn hfu
      have hlen1 : l1.length = l0.length := by rw [← hl1]; simp
      generalize hl : (numbered l1 0).map (watched (masks ops.toList []) (numbered l1 0)) = l at hc hall hle hlt hp hn hfu
      have hlen0 : l0.length = ops.size := by have h1 := hfit.len; rw [List.length_range] at h1; exact h1.symm
      have hat : ∀ (m : Nat) o0, l0[m]? = some o0 → Fit P n ops m o0 := fun m o0 h0 => by
        obtain ⟨q, hq, f⟩ := hfit.getR' h0
        have hlt : m < (List.range ops.size).length := (List.getElem?_eq_some_iff.1 hq).1
        rw [List.length_range] at hlt
        rw [List.getElem?_range hlt] at hq
        cases hq; exact f
      have hspec : ∀ (m : Nat) io, l[m]? = some io → io.id = m ∧ ((m = j ∧ io.k = .p (.byteStr false x) ∧ io.guard = oj.guard ∧ io.dst = some t ∧ Fit P n ops j { io with k := .a (.mkSl [.int .u8 0] 1 1 [(0, 1, x)]) }) ∨
          (m = i ∧ io.k = .p (.byteStr true x) ∧ io.guard = oj.guard ∧ Fit P n ops i { io with k := .r (.toStr (.tmp t)) }) ∨ (m ≠ i ∧ m ≠ j ∧ Fit P n ops m io)) := by
        intro m io hi
        rw [← hl, List.getElem?_map, numbered_spec] at hi
        obtain ⟨io1, h1, rfl⟩ := Option.map_eq_some_iff.1 hi
        obtain ⟨io0, h0, rfl⟩ := Option.map_eq_some_iff.1 h1
        obtain ⟨q1, q2, q3, q4⟩ := watched_same (masks ops.toList []) (numbered l1 0) { io0 with id := 0 + m }
        refine ⟨by rw [q4]; simp, ?_⟩
        simp only at q1 q2 q3
        rw [← hl1] at h0
        by_cases hmi : m = i
        · subst hmi
          rw [List.getElem?_set_self (by simpa using hli)] at h0
          cases h0
          refine .inr (.inl ⟨rfl, q3, by rw [q2, hgg], ?_⟩)
          obtain ⟨o, r1, r2, r3, r4, r5⟩ := hat _ _ hoi
          exact ⟨o, r1, q1.trans r2, r3, r4.trans (by rw [q2]), by rw [← hki]; exact r5⟩
        · rw [List.getElem?_set_ne (Ne.symm hmi)] at h0
          by_cases hmj : m = j
          · subst hmj
            rw [List.getElem?_set_self hlj] at h0
            cases h0
            refine .inl ⟨rfl, q3, by rw [q2], by rw [q1]; exact hdj, ?_⟩
            obtain ⟨o, r1, r2, r3, r4, r5⟩ := hat _ _ hoj
            exact ⟨o, r1, q1.trans r2, r3, r4.trans (by rw [q2]), by rw [← hkj]; exact r5⟩
          · rw [List.getElem?_set_ne (Ne.symm hmj)] at h0
            refine .inr (.inr ⟨hmi, hmj, ?_⟩)
            obtain ⟨o, r1, r2, r3, r4, r5⟩ := hat _ _ h0
            exact ⟨o, r1, q1.trans r2, r3, r4.trans (by rw [q2]), by rw [q3]; exact r5⟩
      have hlen : l.length = ops.size := by
        have h2 : ∀ (l : List IOp) s, (numbered l s).length = l.length := by
          intro l; induction l with
          | nil => intro s; rfl
          | cons o l ih => intro s; simp [numbered, ih]
        rw [← hl, List.length_map, h2, hlen1, hlen0]
      generalize plan (masks ops.toList []) l (l.filter (·.k.heavy)) [] = order at hc hall hle hlt hp hn hfu
      have hmap := told_map l (fun i io h => (hspec i io h).1) order hlt
      cases hc
      have hmem : ∀ io ∈ order.filterMap (fun i => l[i]?), ∃ i, i < l.length ∧ l[i]? = some io := fun io hio => by
        obtain ⟨i, _, hi⟩ := List.mem_filterMap.1 hio
        exact ⟨i, (List.getElem?_eq_some_iff.1 hi).1, hi⟩
      refine ⟨i, j, t, x, oj.guard, by omega, by omega, hij, hji, fun i o ho e he hb => by have := edges_spec hE i o (by rw [Array.getElem?_toList]; exact ho) e he hb; omega, mask_ok, ⟨?_, fun io hio => ?_, fun i hi _ => ?_, pairs_spec hp⟩, ?_⟩
      · rw [hmap]; exact nodup_spec hn
      · obtain ⟨m, hm, hio'⟩ := hmem io hio
        obtain ⟨r1, r2⟩ := hspec m io hio'
        have : m < ops.size := by omega
        refine ⟨by rw [r1]; exact this, by rw [r1]; simp [this], hfu io hio, ?_⟩
        rw [r1]; exact r2
      · have hi' : i < l.length := by omega
        have hin := hall i (by simpa using hi')
        have hin' : i ∈ order := by simpa using hin
        exact ⟨l[i], List.mem_filterMap.2 ⟨i, hin', List.getElem?_eq_getElem hi'⟩, (hspec i _ (List.getElem?_eq_getElem hi')).1⟩
      · have h1 : (order.filterMap fun i => l[i]?).length = order.length := by rw [← List.length_map (f := fun o : IOp => o.id), hmap]
        rw [h1]
        omega

/-- A region of open order, as it is told. -/
theorem any_steps {told : List IOp} {a : A} {K : A → H → Prop} (hc : cAny P n ops = some told) (tt : Nat) (hnd : b.roundOf ≠ none → ∀ io ∈ told, ∀ f a, io.k ≠ .h (.dfr f a)) (s : SR P n base μ a h act w) (hE : drawE (Snd P) told [] a h K) :
    Came P n base b k cs ops (Region.linearise.go .any ops ops.size tt (Array.replicate ops.size false) []) μ h act w K := by
  have hD : Down ops (Array.replicate ops.size false) := ⟨by simp, fun i o ho hl e he hb => by
    exfalso
    rcases Nat.lt_or_ge i ops.size with h | h
    · simp [h] at hl
    · simp [Nat.not_lt.2 h] at hl⟩
  unfold cAny at hc
  split at hc
  · rename_i l hl
    cases hc
    obtain ⟨hEd, hM, hT, hlen⟩ := cDraw_spec hl
    exact draw_steps (b := b) (k := k) (cs := cs) hM hEd ops.size tt _ _ hlen hT hD hnd s hE
  · obtain ⟨i, j, t, x, g, hi, hj, hij, hji, hEd, hM, hT, hlen⟩ := cFuse_spec hc
    exact fuse0 hM hEd hi hj hij hji ops.size tt _ _ hlen hT hD (by simp [hj]) hnd s hE
end Mir
