/- The mirror, part 7: operations that read memory. -/
import Derived.Test.YtijipnkdabdioaaMir6
import Derived.Laws.Cells
set_option linter.unusedSimpArgs false
set_option linter.unusedVariables false
namespace Mir
open Go
variable {P : Program} {μ : Mu} {h : H} {w : World} {n : Nat} {ρ : Opd → V} {ρ' : Operand → Value} {v : V}

/-- A piece's cells as the model sees them. -/
theorem R.cells (r : R P μ h w) {b : Nat} {cs : List V} {ro : Bool} {L : Loc} (hb : h b = some (.cells cs ro)) (hL : μ b = some L) :
    (∀ i v, cs[i]? = some v → ∃ d, w.cell? ⟨L.B, L.s + i, none⟩ = some d ∧ VR μ v d ∧ d.oneCell' = true) ∧ L.s + cs.length ≤ L.n := by
  obtain ⟨L', x, e, hx, c, el, fr, rfl, h1, h2, h3, _⟩ := r.at_ b _ hb
  rw [hL] at e; cases e
  refine ⟨fun i v hv => ?_, h2⟩
  obtain ⟨d, hd, hr, h1⟩ := h3 i v hv
  exact ⟨d, by simp [World.cell?, hx, hd], hr, h1⟩
/-- Some of a piece's cells. -/
theorem R.some_cells (r : R P μ h w) {b : Nat} {cs : List V} {ro : Bool} {L : Loc} (hb : h b = some (.cells cs ro)) (hL : μ b = some L) (o k : Nat) (hk : o + k ≤ cs.length) :
    ∃ ds : List Value, ds.length = k ∧ VRs μ ((cs.drop o).take k) ds ∧ ∀ j d, ds[j]? = some d → w.cell? (Addr.add ⟨L.B, L.s + o, none⟩ j) = some d ∧ d.oneCell' = true := by
  obtain ⟨hc, _⟩ := r.cells hb hL
  have key : ∀ k, o + k ≤ cs.length → ∃ ds : List Value, ds.length = k ∧ VRs μ ((cs.drop o).take k) ds ∧ ∀ j d, ds[j]? = some d → w.cell? (Addr.add ⟨L.B, L.s + o, none⟩ j) = some d ∧ d.oneCell' = true := by
    intro k
    induction k with
    | zero => intro _; exact ⟨[], rfl, by simpa using All2.nil, fun j d hd => by simp at hd⟩
    | succ k ih =>
      intro hk
      obtain ⟨ds, hl, hv, hd⟩ := ih (by omega)
      have hlt : o + k < cs.length := by omega
      obtain ⟨d, hd1, hd2, hd3⟩ := hc (o + k) cs[o + k] (List.getElem?_eq_getElem hlt)
      refine ⟨ds ++ [d], by simp [hl], ?_, fun j d' hj => ?_⟩
      · have : (cs.drop o).take (k + 1) = (cs.drop o).take k ++ [cs[o + k]] := by
          rw [List.take_succ_eq_append_getElem (by simp; omega)]
          simp
        rw [this]
        exact hv.append (.cons hd2 .nil)
      · rcases Nat.lt_or_ge j ds.length with hj' | hj'
        · rw [List.getElem?_append_left hj'] at hj
          exact hd j d' hj
        · rw [List.getElem?_append_right hj'] at hj
          have : j = ds.length := by
            rcases Nat.lt_or_ge ds.length j with h | h
            · have : 1 ≤ j - ds.length := by omega
              rw [List.getElem?_eq_none (by simpa using this)] at hj; cases hj
            · omega
          subst this
          simp at hj
          subst hj
          rw [add_lit, hl]
          exact ⟨by simpa [Nat.add_assoc] using hd1, hd3⟩
  exact key k hk
theorem run_cells {a : Addr} {ds : List Value} (hc : ∀ j d, ds[j]? = some d → w.cell? (a.add j) = some d) : (loadCells a ds.length).run P w = .ok ds.toArray w :=
  run_loadCells_list w a ds hc

/-! ### Maps -/
theorem keyOf_cases {t : TypeId} {kc : KC} (hk : keyOf P t = some kc) : (∃ c, kc = .one c ∧ eqOf P t = some c) ∨ (∃ cs, kc = .agg cs ∧ structEq P t = some cs) := by
  unfold keyOf at hk
  split at hk
  · rename_i c hc; cases hk; exact .inl ⟨c, rfl, hc⟩
  · obtain ⟨cs, hc, rfl⟩ := Option.map_eq_some_iff.1 hk
    exact .inr ⟨cs, rfl, hc⟩
theorem keyEq_sound {t : TypeId} {kc : KC} (hk : keyOf P t = some kc) {x y : V} {dx dy : Value} {b : Bool} (hx : VR μ x dx) (hy : VR μ y dy) (he : keyEq kc x y = some b) (w : World) :
    (Op.equal t dx dy).run P w = .ok b w := by
  rcases keyOf_cases hk with ⟨c, rfl, hc⟩ | ⟨cs, rfl, hc⟩
  · simp only [keyEq] at he
    exact evEq_sound (eqOf_spec hc).1 hx hy he 9999
  · cases x <;> (try (simp [keyEq] at he; done))
    cases y <;> (try (simp [keyEq] at he; done))
    exact structEq_sound hc hx hy he 9998
theorem sameNow_sound {t : TypeId} {c : EqC} {d : TypeDesc} (hc : eqOf P t = some c) (hd : P.underlying t = some d) {x y : V} {dx dy : Value} {b : Bool} (hx : VR μ x dx) (hy : VR μ y dy) (he : evEq c x y = some b) :
    Instr.sameNow d dx dy = some b := by
  unfold eqOf at hc
  split at hc <;> cases hc <;> rename_i hu <;> rw [hu] at hd <;> cases hd
  all_goals
    cases hx <;> simp only [evEq] at he <;> (try cases he; done) <;> cases hy <;> simp only [evEq] at he <;> (try cases he; done)
  · cases he; rfl
  · split at he
    · rename_i e; cases he; simp [Instr.sameNow, e]
    · cases he
  · cases he; simp [Instr.sameNow, bytes_beq]

abbrev EntR (μ : Mu) := fun (e : V × V × Nat) (m : MapEntry) => VR μ e.1 m.key ∧ VR μ e.2.1 m.val ∧ e.2.2 = m.born
theorem findNow_none {d : TypeDesc} {k : Value} {f : Value → Option Bool} (hf : ∀ x, Instr.sameNow d k x = f x) : ∀ (l : List MapEntry) (i : Nat), (∀ e ∈ l, f e.key = some false) → Instr.findNow d k l i = some none
  | [], i, _ => rfl
  | e :: l, i, h => by
    simp only [Instr.findNow, hf, h e (by simp)]
    exact findNow_none hf l (i + 1) fun x hx => h x (by simp [hx])
theorem findNow_some {d : TypeDesc} {k : Value} : ∀ (l : List MapEntry) (i j : Nat) (e : MapEntry), l[j]? = some e → Instr.sameNow d k e.key = some true → (∀ i' e', i' < j → l[i']? = some e' → Instr.sameNow d k e'.key = some false) →
    Instr.findNow d k l i = some (some (i + j, e.val))
  | [], i, j, e, h, _, _ => by simp at h
  | x :: l, i, 0, e, h, h1, h2 => by simp at h; subst h; simp [Instr.findNow, h1]
  | x :: l, i, j + 1, e, h, h1, h2 => by
    simp only [Instr.findNow, h2 0 x (by omega) (by simp)]
    rw [findNow_some l (i + 1) j e (by simpa using h) h1 fun i' e' hi he => h2 (i' + 1) e' (by omega) (by simpa using he)]
    congr 3
    omega
theorem findAsking_none {t : TypeId} {k : Value} : ∀ (l : List MapEntry) (i : Nat), (∀ e ∈ l, (Op.equal t k e.key).run P w = .ok false w) → (Instr.findAsking t k l i).run P w = .ok none w
  | [], i, _ => by simp [Instr.findAsking]
  | e :: l, i, h => by
    simp only [Instr.findAsking, Sem.run_bind, h e (by simp), Result.andThen_ok, Bool.false_eq_true, if_false]
    exact findAsking_none l (i + 1) fun x hx => h x (by simp [hx])
theorem findAsking_some {t : TypeId} {k : Value} : ∀ (l : List MapEntry) (i j : Nat) (e : MapEntry), l[j]? = some e → (Op.equal t k e.key).run P w = .ok true w → (∀ i' e', i' < j → l[i']? = some e' → (Op.equal t k e'.key).run P w = .ok false w) →
    (Instr.findAsking t k l i).run P w = .ok (some (i + j, e.val)) w
  | [], i, j, e, h, _, _ => by simp at h
  | x :: l, i, 0, e, h, h1, h2 => by simp at h; subst h; simp [Instr.findAsking, h1]
  | x :: l, i, j + 1, e, h, h1, h2 => by
    simp only [Instr.findAsking, Sem.run_bind, h2 0 x (by omega) (by simp), Result.andThen_ok, Bool.false_eq_true, if_false]
    rw [findAsking_some l (i + 1) j e (by simpa using h) h1 fun i' e' hi he => h2 (i' + 1) e' (by omega) (by simpa using he)]
    congr 3
    omega
/-- Where a key stands. -/
theorem findK_some {kc : KC} {k : V} {x : V} {m : Nat} : ∀ {es : Ents}, findK kc k es = some (some (x, m)) →
    ∃ j k0, es[j]? = some (k0, x, m) ∧ keyEq kc k k0 = some true ∧ (∀ i e, i < j → es[i]? = some e → keyEq kc k e.1 = some false) ∧ (∀ y, setK kc k y es = es.set j (k, y, m)) ∧ delK kc k es = es.eraseIdx j
  | [], h => by simp [findK] at h
  | (k0, y, m') :: es, h => by
    simp only [findK] at h
    split at h
    · rename_i hk; cases h
      exact ⟨0, k0, by simp, hk, fun i e hi => by omega, fun y => by simp [setK, hk], by simp [delK, hk]⟩
    · rename_i hk
      obtain ⟨j, k1, h1, h2, h3, h4, h5⟩ := findK_some h
      refine ⟨j + 1, k1, by simpa using h1, h2, fun i e hi he => ?_, fun y => by simp [setK, hk, h4], by simp [delK, hk, h5]⟩
      cases i with
      | zero => simp at he; subst he; exact hk
      | succ i => exact h3 i e (by omega) (by simpa using he)
    · cases h
theorem findK_none {kc : KC} {k : V} : ∀ {es : Ents}, findK kc k es = some none → (∀ e ∈ es, keyEq kc k e.1 = some false) ∧ delK kc k es = es
  | [], h => by simp [delK]
  | (k0, y, m') :: es, h => by
    simp only [findK] at h
    split at h
    · cases h
    · rename_i hk
      obtain ⟨h1, h2⟩ := findK_none h
      exact ⟨fun e he => by
        rcases List.mem_cons.1 he with rfl | he
        · exact hk
        · exact h1 e he, by simp [delK, hk, h2]⟩
    · cases h
theorem All2.mem {α β : Type} {R : α → β → Prop} {as : List α} {bs : List β} (h : All2 R as bs) {b : β} (hb : b ∈ bs) : ∃ a ∈ as, R a b := by
  induction h with
  | nil => simp at hb
  | cons hr _ ih =>
    rcases List.mem_cons.1 hb with rfl | hb
    · exact ⟨_, by simp, hr⟩
    · obtain ⟨a, ha, hr⟩ := ih hb; exact ⟨a, by simp [ha], hr⟩
theorem All2.getR {α β : Type} {R : α → β → Prop} {as : List α} {bs : List β} (h : All2 R as bs) {i : Nat} {b : β} (hb : bs[i]? = some b) : ∃ a, as[i]? = some a ∧ R a b := by
  have hi : i < as.length := by
    rw [h.len]
    exact (List.getElem?_eq_some_iff.1 hb).1
  obtain ⟨b', hb', hr⟩ := h.get (List.getElem?_eq_getElem hi)
  rw [hb] at hb'; cases hb'
  exact ⟨_, List.getElem?_eq_getElem hi, hr⟩

theorem findKey_none {t : TypeId} {kc : KC} (hk : keyOf P t = some kc) {k : V} {dk : Value} (hd : VR μ k dk) {es : Ents} {ents : List MapEntry} (he : All2 (EntR μ) es ents) (hf : findK kc k es = some none) (w : World) :
    (Instr.findKey t dk ents).run P w = .ok none w := by
  obtain ⟨h1, _⟩ := findK_none hf
  have hall : ∀ e ∈ ents, (Op.equal t dk e.key).run P w = .ok false w := fun e hm => by
    obtain ⟨a, ha, hr⟩ := he.mem hm
    exact keyEq_sound hk hd hr.1 (h1 a ha) w
  rcases keyOf_cases hk with ⟨c, rfl, hc⟩ | ⟨cs, rfl, hc⟩
  · obtain ⟨hT, d, hu, _⟩ := eqOf_spec hc
    have : Instr.findNow d dk ents 0 = some none := findNow_none (f := fun x => Instr.sameNow d dk x) (fun _ => rfl) ents 0 fun e hm => by
      obtain ⟨a, ha, hr⟩ := he.mem hm
      exact sameNow_sound hc hu hd hr.1 (h1 a ha)
    simp [Instr.findKey, run_und hu, this]
  · have hu : ∃ fs, P.underlying t = some (.struct fs) := by
      unfold structEq at hc
      split at hc
      · rename_i fs e; exact ⟨fs, e⟩
      · cases hc
    obtain ⟨fs, hu⟩ := hu
    simp only [Instr.findKey, Sem.run_bind, run_und hu, Result.andThen_ok]
    cases ents with
    | nil => simp [Instr.findNow]
    | cons e es' =>
      have : Instr.findNow (.struct fs) dk (e :: es') 0 = none := by simp [Instr.findNow, Instr.sameNow]
      rw [this]
      exact findAsking_none _ 0 hall
theorem findKey_some {t : TypeId} {kc : KC} (hk : keyOf P t = some kc) {k : V} {dk : Value} (hd : VR μ k dk) {es : Ents} {ents : List MapEntry} (he : All2 (EntR μ) es ents) {x : V} {m : Nat}
    (hf : findK kc k es = some (some (x, m))) (w : World) :
    ∃ j e k0, ents[j]? = some e ∧ es[j]? = some (k0, x, m) ∧ EntR μ (k0, x, m) e ∧ keyEq kc k k0 = some true ∧ (∀ y, setK kc k y es = es.set j (k, y, m)) ∧ delK kc k es = es.eraseIdx j ∧
      (Instr.findKey t dk ents).run P w = .ok (some (j, e.val)) w := by
  obtain ⟨j, k0, h1, h2, h3, h4, h5⟩ := findK_some hf
  obtain ⟨e, he1, he2⟩ := he.get h1
  refine ⟨j, e, k0, he1, h1, he2, h2, h4, h5, ?_⟩
  have e1 := keyEq_sound hk hd he2.1 h2 w
  have e2 : ∀ i' e', i' < j → ents[i']? = some e' → (Op.equal t dk e'.key).run P w = .ok false w := fun i' e' hi hm => by
    obtain ⟨a, ha, hr⟩ := he.getR hm
    exact keyEq_sound hk hd hr.1 (h3 i' a hi ha) w
  rcases keyOf_cases hk with ⟨c, rfl, hc⟩ | ⟨cs, rfl, hc⟩
  · obtain ⟨hT, d, hu, _⟩ := eqOf_spec hc
    have : Instr.findNow d dk ents 0 = some (some (0 + j, e.val)) := findNow_some ents 0 j e he1 (sameNow_sound hc hu hd he2.1 h2) fun i' e' hi hm => by
      obtain ⟨a, ha, hr⟩ := he.getR hm
      exact sameNow_sound hc hu hd hr.1 (h3 i' a hi ha)
    simp [Instr.findKey, run_und hu, this]
  · have hu : ∃ fs, P.underlying t = some (.struct fs) := by
      unfold structEq at hc
      split at hc
      · rename_i fs e; exact ⟨fs, e⟩
      · cases hc
    obtain ⟨fs, hu⟩ := hu
    simp only [Instr.findKey, Sem.run_bind, run_und hu, Result.andThen_ok]
    have : Instr.findNow (.struct fs) dk ents 0 = none := by
      cases ents with
      | nil => simp at he1
      | cons e' es' => simp [Instr.findNow, Instr.sameNow]
    rw [this]
    simpa using findAsking_some ents 0 j e he1 e1 e2

theorem checkKey_fields (m : Nat) (em : Bool) : ∀ (fs : List Field) (i : Nat) (cs : List EqC) (xs : List V) (ds : List Value), eqsOf P fs i = some cs → VRs μ xs (ds.drop i) → evEqs cs xs xs = some true →
    (forIn fs PUnit.unit (fun f (_ : PUnit) => if f.name ≠ "_" then do Instr.checkKey em (m + 1) f.type (← part f.type ds.toArray f.offset); pure (ForInStep.yield PUnit.unit) else pure (ForInStep.yield PUnit.unit)) : Sem PUnit).run P w = .ok PUnit.unit w := by
  intro fs
  induction fs with
  | nil => intro i cs xs ds _ _ _; simp
  | cons f fs ih =>
    intro i cs xs ds hc hv he
    simp only [eqsOf] at hc
    split at hc
    · rename_i hf
      split at hc
      · rename_i c cs' h1 h2
        cases hc
        cases xs with
        | nil => simp [evEqs] at he
        | cons x xs =>
          obtain ⟨hT, d, hd, hn1, hn2⟩ := eqOf_spec h1
          obtain ⟨vx, ex, rx⟩ := hv.get (i := 0) (a := x) (by simp)
          simp at ex
          have tx : VRs μ xs (ds.drop (i + 1)) := by simpa using hv.drop 1
          simp only [evEqs] at he
          have hx1 : evEq c x x = some true := by
            split at he
            · assumption
            · cases he
            · cases he
          rw [hx1] at he
          have px : (part f.type ds.toArray f.offset).run P w = .ok vx w := by simp [part, run_isAgg_false hd hn1 hn2, hf.2, ex]
          have hck : (Instr.checkKey em (m + 1) f.type vx).run P w = .ok () w := by
            simp only [Instr.checkKey, Sem.run_bind, run_und hd, Result.andThen_ok]
            unfold eqOf at h1
            split at h1 <;> cases h1 <;> rename_i hu <;> rw [hu] at hd <;> cases hd <;> simp
          simp only [List.forIn_cons, ne_eq, hf.1, not_false_eq_true, if_true, Sem.run_bind, px, Result.andThen_ok, hck, Sem.run_pure]
          exact ih (i + 1) cs' xs ds h2 tx he
      · cases hc
    · cases hc
theorem checkKey_sound' {t : TypeId} {kc : KC} (hk : keyOf P t = some kc) {k : V} {dk : Value} (hd : VR μ k dk) (he : keyEq kc k k = some true) (em : Bool) (w : World) (m : Nat) : (Instr.checkKey em (m + 2) t dk).run P w = .ok () w := by
  rcases keyOf_cases hk with ⟨c, rfl, hc⟩ | ⟨cs, rfl, hc⟩
  · obtain ⟨hT, d, hu, _⟩ := eqOf_spec hc
    rw [Instr.checkKey]
    simp only [Sem.run_bind, run_und hu, Result.andThen_ok]
    unfold eqOf at hc
    split at hc <;> cases hc <;> rename_i hu' <;> rw [hu'] at hu <;> cases hu <;> simp
  · cases k <;> (try (simp [keyEq] at he; done))
    rename_i xs
    simp only [keyEq] at he
    obtain ⟨ds, rfl, hv⟩ := hd.agg_inv
    unfold structEq at hc
    split at hc
    · rename_i fs hu
      split at hc
      · rw [Instr.checkKey]
        simp only [Sem.run_bind, run_und hu, Result.andThen_ok]
        rw [← Array.forIn_toList]
        have := checkKey_fields (w := w) m em fs.toList 0 cs xs ds hc (by simpa using hv) he
        simp at this ⊢
        rw [this]
        rfl
      · cases hc
    · cases hc
theorem checkKey_sound {t : TypeId} {kc : KC} (hk : keyOf P t = some kc) {k : V} {dk : Value} (hd : VR μ k dk) (he : keyEq kc k k = some true) (em : Bool) (w : World) : (Instr.checkKey em 10000 t dk).run P w = .ok () w :=
  checkKey_sound' hk hd he em w 9998

/-! ### The reads -/
theorem run_load_cell {a : Addr} {d : Value} (hc : w.cell? a = some d) : (load a).run P w = .ok d w := by rw [run_load, hc]
theorem loadVar_sound (r : R P μ h w) {t : TypeId} {k : Nat} {g : Bool} (hz : szA P t = some (k, g)) {b o : Nat} {cs : List V} {ro : Bool} {L : Loc} (hb : h b = some (.cells cs ro)) (hL : μ b = some L) (he : partOf o k g cs = some v) :
    ∃ d, VR μ v d ∧ (loadVar t ⟨L.B, L.s + o, none⟩).run P w = .ok d w := by
  unfold partOf at he
  cases g with
  | true =>
    simp only [if_true] at he
    split at he
    · rename_i hle
      cases he
      obtain ⟨ds, hl, hv, hc⟩ := r.some_cells hb hL o k hle
      refine ⟨_, VR.mkAgg hv, ?_⟩
      simp only [loadVar, Sem.run_bind, run_isAgg hz, Result.andThen_ok, if_true, run_sizeOf (szA_size hz)]
      rw [← hl, run_cells fun j d hj => (hc j d hj).1]
      simp
    · cases he
  | false =>
    simp only [Bool.false_eq_true, if_false] at he
    obtain ⟨hc, _⟩ := r.cells hb hL
    obtain ⟨d, hd, hr, _⟩ := hc o v he
    refine ⟨d, hr, ?_⟩
    simp only [loadVar, Sem.run_bind, run_isAgg hz, Result.andThen_ok, Bool.false_eq_true, if_false]
    exact run_load_cell hd

theorem bytesOf_sound : ∀ (vs : List V) (ds : List Value) (s : List UInt8), VRs μ vs ds → bytesOf vs = some s → ∃ ns : List Int, ds = ns.map (Value.int .u8) ∧ s = ns.map fun n => UInt8.ofNat n.toNat
  | [], _, s, hv, he => by cases hv; simp only [bytesOf] at he; cases he; exact ⟨[], rfl, rfl⟩
  | v :: vs, _, s, hv, he => by
    cases hv with
    | cons h1 h2 =>
      cases v <;> (try (simp [bytesOf] at he; done))
      rename_i k i
      cases k <;> (try (simp [bytesOf] at he; done))
      simp only [bytesOf] at he
      split at he
      · rename_i s' hs
        cases he
        obtain ⟨ns, rfl, rfl⟩ := bytesOf_sound vs _ s' h2 hs
        exact ⟨i :: ns, by rw [h1.int_inv]; rfl, rfl⟩
      · cases he
theorem foldl_push_bytes' : ∀ (ns : List Int) (s : ByteArray), ns.foldl (fun r n => r.push (UInt8.ofNat n.toNat)) s = ⟨s.data ++ (ns.map fun n => UInt8.ofNat n.toNat).toArray⟩
  | [], s => by simp
  | n :: ns, s => by
    simp only [List.foldl_cons, List.map_cons]
    rw [foldl_push_bytes' ns]
    simp [ByteArray.push]

theorem findBorn_sound {m : Nat} {x y : V} : ∀ {es : Ents} {ents : List MapEntry}, All2 (EntR μ) es ents → findBorn m es = some (x, y) → ∃ e, ents.find? (·.born == m) = some e ∧ VR μ x e.key ∧ VR μ y e.val
  | _, _, .nil, hf => by simp [findBorn] at hf
  | _, _, .cons (a := a) (b := b) h1 h2, hf => by
    simp only [findBorn] at hf
    split at hf
    · rename_i hm
      cases hf
      exact ⟨b, by simp [List.find?_cons, ← h1.2.2, hm], h1.1, h1.2.1⟩
    · rename_i hm
      obtain ⟨e, he, hr⟩ := findBorn_sound h2 hf
      have : (b.born == m) = false := by rw [← h1.2.2]; simpa using hm
      exact ⟨e, by simp [List.find?_cons, this, he], hr⟩

set_option maxHeartbeats 2000000 in
theorem rk_sound {op : Op} {k : RK} (hc : cOp P n op = some (.r k)) (hρ : Rho P n μ ρ ρ') (r : R P μ h w) (he : k.ev ρ h = some v) (o : Oper) (ho : o.op = op) :
    ∃ d, VR μ v d ∧ (execOp ρ' o).run P w = .ok (.value d) w := by
  obtain ⟨dst, op', type, pos, after, guard⟩ := o
  simp only at ho
  subst ho
  cases op' with
  | load t x =>
    simp only [cOp] at hc
    split at hc
    · rename_i a s g h1 h2
      split at hc
      · cases hc
        have hv := rho1 hρ h1
        simp only [RK.ev] at he
        cases ha : ρ a <;> simp only [ha] at he <;> (try cases he; done)
        rename_i b o
        rw [ha] at hv
        obtain ⟨L, hL, e⟩ := hv.ptr_inv
        split at he
        · rename_i cs ro hb
          obtain ⟨d, hd, hr⟩ := loadVar_sound r h2 hb hL he
          refine ⟨d, hd, ?_⟩
          simp only [execOp]
          refine val_of ?_
          rw [e]
          simp [Instr.loadAt, Instr.sureAddr, hr]
        · cases he
      · cases hc
    · cases hc
  | lookup t m x ok =>
    simp only [cOp] at hc
    split at hc
    · rename_i m' k' kt e h1 h2 h3
      split at hc
      · rename_i kc z hkc hz
        cases hc
        have hm := rho1 hρ h1
        have hkv := rho1 hρ h2
        obtain ⟨zd, hzv, hzr⟩ := zeroT_sound (μ := μ) hz
        simp only [RK.ev] at he
        split at he
        · rename_i hkk
          have hck := fun em => checkKey_sound hkc hkv hkk em w
          cases hmv : ρ m' <;> simp only [hmv] at he <;> (try cases he; done)
          · rename_i b
            rw [hmv] at hm
            obtain ⟨L, hL, eM⟩ := hm.map_inv
            split at he
            · rename_i es clock hb
              obtain ⟨L', x', eL, hx, ents, rfl, hents⟩ := r.at_ b _ hb
              rw [hL] at eL; cases eL
              have hg : (getObj L.B).run P w = .ok (.map ents clock) w := by simp [getObj, Sem.run, hx]
              split at he
              · rename_i v0 m0 hf
                obtain ⟨j, e', k0, q1, q2, q3, q4, q5, q6, q7⟩ := findKey_some hkc hkv hents hf w
                cases he
                refine ⟨if ok then .tuple #[e'.val, .bool true] else e'.val, ?_, ?_⟩
                · cases ok
                  · exact q3.2.1
                  · exact VR.mkTup (.cons q3.2.1 (.cons (.bool _) .nil))
                · simp only [execOp]
                  refine val_of ?_
                  rw [eM]
                  simp only [Instr.lookup, Sem.run_bind, run_und h3, Result.andThen_ok, hg, Sem.run_pure, hck, q7]
              · rename_i hf
                have q7 := findKey_none hkc hkv hents hf w
                cases he
                refine ⟨if ok then .tuple #[zd, .bool false] else zd, ?_, ?_⟩
                · cases ok
                  · exact hzv
                  · exact VR.mkTup (.cons hzv (.cons (.bool _) .nil))
                · simp only [execOp]
                  refine val_of ?_
                  rw [eM]
                  simp only [Instr.lookup, Sem.run_bind, run_und h3, Result.andThen_ok, hg, Sem.run_pure, hck, q7, hzr]
              · cases he
            · cases he
          · rw [hmv] at hm
            have eM : ρ' m = .map none := by generalize ρ' m = q at hm; cases hm; rfl
            cases he
            have q7 := findKey_none (es := []) (ents := []) hkc hkv .nil rfl w
            refine ⟨if ok then .tuple #[zd, .bool false] else zd, ?_, ?_⟩
            · cases ok
              · exact hzv
              · exact VR.mkTup (.cons hzv (.cons (.bool _) .nil))
            · simp only [execOp]
              refine val_of ?_
              rw [eM]
              simp only [Instr.lookup, Sem.run_bind, run_und h3, Result.andThen_ok, Sem.run_pure, hck, q7, hzr]
        · cases he
      · cases hc
    · cases hc
  | entry it =>
    simp only [cOp] at hc
    obtain ⟨a, hx, hk⟩ := Option.map_eq_some_iff.1 hc
    cases hk
    have hv := rho1 hρ hx
    simp only [RK.ev] at he
    cases ha : ρ a <;> simp only [ha] at he <;> (try cases he; done)
    rename_i i o
    cases o with
    | succ o => simp at he
    | zero =>
      simp only at he
      rw [ha] at hv
      obtain ⟨L, hL, e⟩ := hv.ptr_inv
      cases hi : h i with
      | none => simp [hi] at he
      | some oi =>
        cases oi <;> simp only [hi] at he <;> (try cases he; done)
        rename_i m since seen stepped
        cases m with
        | none => simp at he
        | some m =>
          simp only at he
          obtain ⟨L', x', eL, hx', h0, m', rfl, K, hK, rfl⟩ := r.at_ i _ hi
          rw [hL] at eL; cases eL
          cases hm : h m with
          | none => simp [hm] at he
          | some om =>
            cases om <;> simp only [hm] at he <;> (try cases he; done)
            rename_i es clock
            obtain ⟨K', y', eK, hy, ents, rfl, hents⟩ := r.at_ m _ hm
            rw [hK] at eK; cases eK
            split at he
            · rename_i nn hlast
              split at he
              · rename_i hcl
                obtain ⟨⟨x, y⟩, hf, rfl⟩ := Option.map_eq_some_iff.1 he
                obtain ⟨e', q1, q2, q3⟩ := findBorn_sound hents hf
                refine ⟨_, VR.mkTup (.cons q2 (.cons q3 .nil)), ?_⟩
                simp only [execOp]
                refine val_of ?_
                have g1 : (getObj L.B).run P w = .ok (.mapIter (some K.B) since seen.toArray stepped) w := by simp [getObj, Sem.run, hx']
                have g2 : (getObj K.B).run P w = .ok (.map ents clock) w := by simp [getObj, Sem.run, hy]
                have g3 : seen.toArray.back? = some nn := by simpa using hlast
                have g4 : ents.find? (·.born == nn) = some e' := by rw [← Array.find?_toList]; exact q1
                rw [e, h0]
                simp [Instr.entry, g1, g2, g3, g4, hcl]
              · cases he
            · cases he
  | slice t x l hh m =>
    cases m with
    | some m => simp only [cOp] at hc; cases hc
    | none =>
      simp only [cOp] at hc
      split at hc
      · cases hc
      · split at hc
        · split at hc <;> cases hc
        · cases hc
      · rename_i a l' h' k' e h1 h2 h3 h4
        split at hc
        · rename_i s hs
          split at hc
          · rename_i hpos
            cases hc
            have hv := rho1 hρ h1
            simp only [RK.ev] at he
            cases ha : ρ a <;> simp only [ha] at he <;> (try cases he; done)
            rename_i b o
            rw [ha] at hv
            obtain ⟨L, hL, eP⟩ := hv.ptr_inv
            cases hb : h b with
            | none => simp [hb] at he
            | some ob =>
              cases ob <;> simp only [hb] at he <;> (try cases he; done)
              rename_i cs ro
              split at he
              · rename_i hle
                obtain ⟨⟨i, j⟩, hij, rfl⟩ := Option.map_eq_some_iff.1 he
                obtain ⟨hr, hij', hjl⟩ := bounds_sound (w := w) hρ h2 h3 (Nat.le_refl k') hij false
                obtain ⟨_, hn⟩ := r.cells hb hL
                refine ⟨_, .sl (L := L) (o' := if k' = i then o else o + i * s) (cap := k' - i) hL ?_ (by omega) ?_ hpos, ?_⟩
                · intro hlt
                  rw [if_neg (by omega)]
                · split
                  · rename_i ei; subst ei; simp; omega
                  · have : (k' - i) * s + i * s = k' * s := by rw [← Nat.add_mul]; congr 1; omega
                    omega
                · simp only [execOp, Option.map_none]
                  refine val_of ?_
                  rw [eP]
                  simp only [Instr.sliceAt, Sem.run_bind, run_und h4, Result.andThen_ok, Instr.sureAddr, hr, run_sizeOf hs, Sem.run_pure]
                  congr 3
                  split
                  · rfl
                  · rw [add_lit, Nat.add_assoc]
              · cases he
          · cases hc
        · cases hc
      · cases hc
  | convert s d x =>
    simp only [cOp] at hc
    split at hc
    · cases hc
    · cases hc
    · rename_i a e h1 h2 h3
      split at hc
      · rename_i hu8
        cases hc
        have hv := rho1 hρ h1
        simp only [RK.ev] at he
        cases ha : ρ a <;> simp only [ha] at he <;> (try cases he; done)
        · rename_i b o es len
          rw [ha] at hv
          obtain ⟨L, o', cap, hL, ho, hcap, hn, hp, eS⟩ := hv.sl_inv
          cases hb : h b with
          | none => simp [hb] at he
          | some ob =>
            cases ob <;> simp only [hb] at he <;> (try cases he; done)
            rename_i cs ro
            split at he
            · rename_i hle
              obtain ⟨s', hs', rfl⟩ := Option.map_eq_some_iff.1 he
              obtain ⟨ds, hl, hvs, hcs⟩ := r.some_cells hb hL o len hle.2
              obtain ⟨ns, rfl, rfl⟩ := bytesOf_sound _ _ _ hvs hs'
              refine ⟨_, .str _, ?_⟩
              simp only [execOp]
              refine val_of ?_
              rw [eS, run_convert_bytes_string w s d e _ _ _ h2 hu8 h3]
              have hlc : (loadCells ⟨L.B, L.s + o', none⟩ len).run P w = .ok (ns.map (Value.int .u8)).toArray w := by
                rcases Nat.eq_zero_or_pos len with h0 | h0
                · subst h0
                  have : ns = [] := by simpa using hl
                  subst this
                  simp [loadCells, loadCellsFrom]
                · rw [ho h0, ← hl]
                  exact run_cells fun j d hj => (hcs j d hj).1
              rw [run_bytesToString w _ len cap ns hlc, foldl_push_bytes']
              have he0 : ByteArray.empty.data = #[] := rfl
              rw [he0]
              simp
            · cases he
        · rw [ha] at hv
          cases he
          refine ⟨_, .str _, ?_⟩
          simp only [execOp]
          refine val_of ?_
          rw [hv.nilsl_inv, run_convert_bytes_string w s d e _ _ _ h2 hu8 h3]
          simp [Conv.bytesToString]
          rfl
      · cases hc
    · split at hc <;> cases hc
    · cases hc
  | call c =>
    obtain ⟨cal, args, ts⟩ := c
    simp only [cOp] at hc
    split at hc
    · rename_i _ b
      unfold cBuiltin at hc
      split at hc
      · rename_i x t tl hA hT
        have hargs : (args.map ρ').toList = args.toList.map ρ' := Array.toList_map ..
        have h0 : (args.map ρ')[0]? = some (ρ' x) := by rw [← Array.getElem?_toList, hargs, hA]; simp
        have t0 : ts[0]? = some t := by rw [← Array.getElem?_toList, hT]; simp
        split at hc
        · cases hc
        · cases hc
        · rename_i a kt e h1 h2
          cases hc
          have hv := rho1 hρ h1
          simp only [RK.ev] at he
          cases ha : ρ a <;> simp only [ha] at he <;> (try cases he; done)
          · rename_i bb
            rw [ha] at hv
            obtain ⟨L, hL, eM⟩ := hv.map_inv
            cases hb : h bb with
            | none => simp [hb] at he
            | some ob =>
              cases ob <;> simp only [hb] at he <;> (try cases he; done)
              rename_i es clock
              cases he
              obtain ⟨L', x', eL, hx, ents, rfl, hents⟩ := r.at_ bb _ hb
              rw [hL] at eL; cases eL
              have hg : (getObj L.B).run P w = .ok (.map ents clock) w := by simp [getObj, Sem.run, hx]
              have hlen : ents.size = es.length := by rw [hents.len]; simp
              refine ⟨_, .int _ _, ?_⟩
              simp only [execOp, resolve]
              simp [invoke, builtin, Builtin.len_, h0, t0, run_und h2, eM, hg, goInt, hlen]
          · rw [ha] at hv
            cases he
            have eM : ρ' x = .map none := by generalize ρ' x = q at hv; cases hv; rfl
            refine ⟨_, .int _ _, ?_⟩
            simp only [execOp, resolve]
            simp [invoke, builtin, Builtin.len_, h0, t0, run_und h2, eM, goInt]
        · cases hc
        · cases hc
      all_goals (repeat' (first | (cases hc; done) | (obtain ⟨_, _, e⟩ := Option.map_eq_some_iff.1 hc; cases e; done) | split at hc))
    all_goals (repeat' (first | (cases hc; done) | (obtain ⟨_, _, e⟩ := Option.map_eq_some_iff.1 hc; cases e; done) | split at hc))
  | makeMap t r => cases r <;> simp only [cOp] at hc <;> cases hc
  | makeFunc f a c => cases f <;> simp only [cOp] at hc <;> (try cases hc; done); split at hc <;> cases hc
  | typeAssert x xt t ok => cases ok <;> simp only [cOp] at hc <;> (try cases hc; done); split at hc <;> cases hc
  | _ =>
    exfalso
    simp only [cOp] at hc
    repeat' (first | (cases hc; done) | (obtain ⟨_, _, e⟩ := Option.map_eq_some_iff.1 hc; cases e; done) | split at hc)
end Mir
