import Derived.Test.YtipnnfmgecbefaaGreatDoorI2
/- The interpreter, 3: its operations tell what the mirror's do. -/
set_option linter.unusedSimpArgs false
set_option linter.unusedVariables false
namespace Mir
open Go
variable {f : Nm} {ρ ρ' : Opd → V}

theorem oneCell {f : Nm} {v a : V} (h : VI f v a) : True := trivial
theorem evBin_rel {op : BinOp} {x y v a b : V} (hx : VI f x a) (hy : VI f y b) (e : evBin op x y = some v) : evBin op a b = some v ∧ VI f v v := by
  cases x <;> cases y <;> simp only [evBin] at e <;> (try (cases e; done))
  · have ha := hx.inv; have hb := hy.inv; simp only at ha hb; subst ha; subst hb
    refine ⟨e, ?_⟩
    cases op <;> simp only at e <;> (repeat' (split at e)) <;> first | (cases e; first | exact .int _ _ | exact .bool _) | (cases e)
  · have ha := hx.inv; have hb := hy.inv; simp only at ha hb; subst ha; subst hb
    refine ⟨e, ?_⟩
    cases op <;> simp only at e <;> (repeat' (split at e)) <;> first | (cases e; first | exact .str _ | exact .bool _) | (cases e)
theorem evEq_rel {c : EqC} {x y a b : V} {r : Bool} (hx : VI f x a) (hy : VI f y b) (e : evEq c x y = some r) : evEq c a b = some r := by
  cases c <;> cases x <;> cases y <;> simp only [evEq] at e <;> (try (cases e; done)) <;> have ha := hx.inv <;> have hb := hy.inv <;> simp only at ha hb <;>
    first
    | (subst ha; subst hb; exact e)
    | (obtain ⟨_, _, rfl⟩ := ha; subst hb; exact e)
    | (subst ha; obtain ⟨_, _, rfl⟩ := hb; exact e)
    | (obtain ⟨p, hp, rfl⟩ := ha
       obtain ⟨q, hq, rfl⟩ := hb
       split at e
       · rename_i c; subst c; rw [hp] at hq; cases hq; simpa [evEq] using e
       · cases e)
    | (obtain ⟨_, rfl, _⟩ := ha; subst hb; exact e)
    | (subst ha; obtain ⟨_, rfl, _⟩ := hb; exact e)
    | (obtain ⟨_, _, rfl, _⟩ := ha; subst hb; exact e)
    | (subst ha; obtain ⟨_, _, rfl, _⟩ := hb; exact e)
theorem evEqs_rel : ∀ {cs : List EqC} {xs ys as bs : List V} {r : Bool}, VIs f xs as → VIs f ys bs → evEqs cs xs ys = some r → evEqs cs as bs = some r
  | [], [], [], as, bs, r, hx, hy, e => by rw [hx.nil_inv, hy.nil_inv]; exact e
  | c :: cs, x :: xs, y :: ys, as, bs, r, hx, hy, e => by
    obtain ⟨a, as', rfl, ha, hx'⟩ := hx.cons_inv
    obtain ⟨b, bs', rfl, hb, hy'⟩ := hy.cons_inv
    simp only [evEqs] at e ⊢
    split at e
    · rename_i q; rw [evEq_rel ha hb q]; exact evEqs_rel hx' hy' e
    · rename_i q; rw [evEq_rel ha hb q]; exact e
    · cases e
  | [], [], _ :: _, _, _, _, _, _, e => by cases e
  | [], _ :: _, _, _, _, _, _, _, e => by cases e
  | _ :: _, [], _, _, _, _, _, _, e => by cases e
  | _ :: _, _ :: _, [], _, _, _, _, _, e => by cases e
theorem evIf_rel {ok : List Nat} {x y a b : V} {r : Bool} (hx : VI f x a) (hy : VI f y b) (e : evIf ok x y = some r) : evIf ok a b = some r := by
  unfold evIf at e
  split at e
  · have ha := hx.inv; simp only at ha; subst ha
    obtain ⟨_, rfl, _⟩ := hy.inv
    exact e
  · obtain ⟨_, rfl, _⟩ := hx.inv
    have hb := hy.inv; simp only at hb; subst hb
    exact e
  · obtain ⟨w, rfl, h1⟩ := hx.inv
    obtain ⟨u, rfl, h2⟩ := hy.inv
    have h1 := h1.inv; have h2 := h2.inv; simp only at h1 h2; subst h1; subst h2
    exact e
  · cases e
theorem partOf_rel {off n : Nat} {g : Bool} {cs ds : List V} {v : V} (h : VIs f cs ds) (e : partOf off n g cs = some v) : ∃ w, partOf off n g ds = some w ∧ VI f v w := by
  unfold partOf at e ⊢
  cases g
  · simp only [Bool.false_eq_true, if_false] at e ⊢
    exact h.get e
  · simp only [if_true] at e ⊢
    split at e
    · rename_i c
      cases e
      rw [if_pos (by rw [← h.1]; exact c)]
      exact ⟨_, rfl, .mkAgg ((h.drop _).take _)⟩
    · cases e
theorem fillIn_rel (hρ : ∀ x, VI f (ρ x) (ρ' x)) : ∀ (ps : List (Nat × Nat × Opd)) {cs ds r : List V}, VIs f cs ds → fillIn ρ cs ps = some r → ∃ r', fillIn ρ' ds ps = some r' ∧ VIs f r r'
  | [], cs, ds, r, h, e => by simp only [fillIn] at e ⊢; cases e; exact ⟨_, rfl, h⟩
  | (off, n, x) :: ps, cs, ds, r, h, e => by
    simp only [fillIn] at e ⊢
    split at e
    · rename_i c
      obtain ⟨h1, h2⟩ := (hρ x).cells c.2.2
      rw [if_pos ⟨by rw [← h1.1]; exact c.1, by rw [← h.1]; exact c.2.1, h2⟩]
      exact fillIn_rel hρ ps (((h.take _).append h1).append (h.drop _)) e
    · cases e
theorem evBounds_rel (hρ : ∀ x, VI f (ρ x) (ρ' x)) {len : Nat} {l hh : Option Opd} {r : Nat × Nat} (e : evBounds ρ len l hh = some r) : evBounds ρ' len l hh = some r := by
  have int : ∀ x k n, ρ x = .int k n → ρ' x = .int k n := fun x k n q => by have := hρ x; rw [q] at this; exact this.inv
  cases hh with
  | none =>
    cases l with
    | none => exact e
    | some x =>
      simp only [evBounds] at e ⊢
      split at e
      · rename_i q; rw [int _ _ _ q]; exact e
      · cases e
  | some y =>
    cases l with
    | none =>
      simp only [evBounds] at e ⊢
      split at e
      · cases e
      · rename_i q
        split at q
        · rename_i q2; rw [int _ _ _ q2]; simp only; rw [q]; exact e
        · cases q
    | some x =>
      simp only [evBounds] at e ⊢
      split at e
      · cases e
      · rename_i q
        split at q
        · rename_i q2
          rw [int _ _ _ q2]; simp only; rw [q]
          split at e
          · rename_i q3; rw [int _ _ _ q3]; exact e
          · cases e
        · cases q
theorem evMm_rel {mx : Bool} {x y v a b : V} (hx : VI f x a) (hy : VI f y b) (e : evMm mx x y = some v) : evMm mx a b = some v ∧ VI f v v := by
  unfold evMm at e
  split at e
  · have ha := hx.inv; have hb := hy.inv; simp only at ha hb; subst ha; subst hb
    split at e
    · rename_i c; cases e; subst c; exact ⟨by simp [evMm], .int _ _⟩
    · cases e
  · cases e
theorem evMms_rel {mx : Bool} : ∀ {xs as : List V} {x a v : V}, VIs f xs as → VI f x a → evMms mx x xs = some v → ∃ w, evMms mx a as = some w ∧ VI f v w
  | [], as, x, a, v, hs, hx, e => by rw [hs.nil_inv]; simp only [evMms] at e ⊢; cases e; exact ⟨_, rfl, hx⟩
  | y :: xs, as, x, a, v, hs, hx, e => by
    obtain ⟨b, bs, rfl, hb, hs'⟩ := hs.cons_inv
    simp only [evMms] at e ⊢
    split at e
    · rename_i w q
      obtain ⟨q1, q2⟩ := evMm_rel hx hb q
      rw [q1]; exact evMms_rel hs' q2 e
    · cases e
theorem map_rel (hρ : ∀ x, VI f (ρ x) (ρ' x)) (l : List Opd) : VIs f (l.map ρ) (l.map ρ') := L2.map l fun x _ => hρ x
theorem bytesOf_rel : ∀ {vs ws : List V} {s : List UInt8}, VIs f vs ws → bytesOf vs = some s → bytesOf ws = some s
  | [], ws, s, h, e => by rw [h.nil_inv]; exact e
  | v :: vs, ws, s, h, e => by
    obtain ⟨w, ws', rfl, hw, h'⟩ := h.cons_inv
    unfold bytesOf at e
    split at e
    · rename_i q; cases q
    · rename_i q; cases q
      have hw := hw.inv; simp only at hw; subst hw
      split at e
      · rename_i s' q2; cases e
        simp only [bytesOf, bytesOf_rel h' q2]
      · cases e
    · cases e
theorem lits_rel {l : List V} (h : lits l = true) : VIs f l l := L2.refl' fun x hx => .lit 5 x (List.all_eq_true.1 h x hx)

theorem PK_rel (hρ : ∀ x, VI f (ρ x) (ρ' x)) {k : PK} {v : V} (hc : k.okc = true) (e : k.ev ρ = some v) : ∃ w, k.ev ρ' = some w ∧ VI f v w := by
  have I : ∀ x y, ρ x = y → VI f y (ρ' x) := fun x y q => q ▸ hρ x
  cases k with
  | mv x => simp only [PK.ev] at e ⊢; cases e; exact ⟨_, rfl, hρ x⟩
  | pick c a b =>
    simp only [PK.ev] at e ⊢
    split at e
    · rename_i c' q; cases e
      have := (I _ _ q).inv; simp only at this; rw [this]
      refine ⟨_, rfl, ?_⟩
      cases c'
      · exact hρ b
      · exact hρ a
    · cases e
  | bin op x y => simp only [PK.ev] at e ⊢; obtain ⟨q1, q2⟩ := evBin_rel (hρ x) (hρ y) e; exact ⟨_, q1, q2⟩
  | eq c neg x y =>
    simp only [PK.ev] at e ⊢
    obtain ⟨b, q, rfl⟩ := Option.map_eq_some_iff.1 e
    rw [evEq_rel (hρ x) (hρ y) q]
    exact ⟨_, rfl, .bool _⟩
  | eqAgg cs neg x y =>
    simp only [PK.ev] at e ⊢
    split at e
    · rename_i q1 q2
      obtain ⟨b, q, rfl⟩ := Option.map_eq_some_iff.1 e
      obtain ⟨_, h1, h2⟩ := (I _ _ q1).inv
      obtain ⟨_, h3, h4⟩ := (I _ _ q2).inv
      rw [h1, h3]; simp only
      rw [evEqs_rel h2 h4 q]
      exact ⟨_, rfl, .bool _⟩
    · cases e
  | un op x =>
    simp only [PK.ev] at e ⊢
    split at e
    · rename_i q; cases e; have := (I _ _ q).inv; simp only at this; rw [this]; exact ⟨_, rfl, .int _ _⟩
    · rename_i q; cases e; have := (I _ _ q).inv; simp only at this; rw [this]; exact ⟨_, rfl, .bool _⟩
    · rename_i q; cases e; have := (I _ _ q).inv; simp only at this; rw [this]; exact ⟨_, rfl, .int _ _⟩
    · cases e
  | convInt k x =>
    simp only [PK.ev] at e ⊢
    split at e
    · rename_i q; cases e; have := (I _ _ q).inv; simp only at this; rw [this]; exact ⟨_, rfl, .int _ _⟩
    · cases e
  | convStr x =>
    simp only [PK.ev] at e ⊢
    split at e
    · rename_i q; cases e; have := (I _ _ q).inv; simp only at this; rw [this]; exact ⟨_, rfl, .str _⟩
    · cases e
  | subStr x l hh =>
    simp only [PK.ev] at e ⊢
    split at e
    · rename_i q
      obtain ⟨⟨i, j⟩, q2, rfl⟩ := Option.map_eq_some_iff.1 e
      have := (I _ _ q).inv; simp only at this; rw [this]; simp only
      rw [evBounds_rel hρ q2]
      exact ⟨_, rfl, .str _⟩
    · cases e
  | subSl es x l hh =>
    simp only [PK.ev] at e ⊢
    split at e
    · rename_i q
      split at e
      · rename_i c
        obtain ⟨⟨i, j⟩, q2, rfl⟩ := Option.map_eq_some_iff.1 e
        obtain ⟨b', h1, h2⟩ := (I _ _ q).inv
        rw [h2]; simp only
        rw [if_pos c, evBounds_rel hρ q2]
        exact ⟨_, rfl, .sl h1⟩
      · cases e
    · rename_i q
      obtain ⟨⟨i, j⟩, q2, rfl⟩ := Option.map_eq_some_iff.1 e
      have := (I _ _ q).inv; simp only at this; rw [this]; simp only
      rw [evBounds_rel hρ q2]
      exact ⟨_, rfl, .nilsl⟩
    · cases e
  | idxStr x i =>
    simp only [PK.ev] at e ⊢
    split at e
    · rename_i q1 q2
      have h1 := (I _ _ q1).inv; have h2 := (I _ _ q2).inv; simp only at h1 h2; rw [h1, h2]; simp only
      rw [e]
      split at e
      · obtain ⟨c, _, rfl⟩ := Option.map_eq_some_iff.1 e; exact ⟨_, rfl, .int _ _⟩
      · cases e
    · cases e
  | idxAgg len es agg x i =>
    simp only [PK.ev] at e ⊢
    split at e
    · rename_i q1 q2
      obtain ⟨_, h1, h3⟩ := (I _ _ q1).inv
      have h2 := (I _ _ q2).inv; simp only at h2; rw [h1, h2]; simp only
      split at e
      · rename_i c; rw [if_pos c]; exact partOf_rel h3 e
      · cases e
    · cases e
  | field off n agg x =>
    simp only [PK.ev] at e ⊢
    split at e
    · rename_i q1
      obtain ⟨_, h1, h3⟩ := (I _ _ q1).inv
      rw [h1]; simp only
      exact partOf_rel h3 e
    · cases e
  | fieldAt off x =>
    simp only [PK.ev] at e ⊢
    split at e
    · rename_i q1
      cases e
      obtain ⟨_, h1, h3⟩ := (I _ _ q1).inv
      rw [h3]; exact ⟨_, rfl, .ptr h1⟩
    · cases e
  | idxSl es x i =>
    simp only [PK.ev] at e ⊢
    split at e
    · rename_i q1 q2
      obtain ⟨_, h1, h3⟩ := (I _ _ q1).inv
      have h2 := (I _ _ q2).inv; simp only at h2; rw [h3, h2]; simp only
      split at e
      · rename_i c; cases e; rw [if_pos c]; exact ⟨_, rfl, .ptr h1⟩
      · cases e
    · cases e
  | idxArr len es x i =>
    simp only [PK.ev] at e ⊢
    split at e
    · rename_i q1 q2
      obtain ⟨_, h1, h3⟩ := (I _ _ q1).inv
      have h2 := (I _ _ q2).inv; simp only at h2; rw [h3, h2]; simp only
      split at e
      · rename_i c; cases e; rw [if_pos c]; exact ⟨_, rfl, .ptr h1⟩
      · cases e
    · cases e
  | ext x i =>
    simp only [PK.ev] at e ⊢
    split at e
    · rename_i q1
      obtain ⟨_, h1, h3⟩ := (I _ _ q1).inv
      rw [h1]; exact h3.get e
    · cases e
  | mkIf t x => simp only [PK.ev] at e ⊢; cases e; exact ⟨_, rfl, .iface (hρ x)⟩
  | mkFn g a c => simp only [PK.ev] at e ⊢; cases e; exact ⟨_, rfl, .mkFn (map_rel hρ a) (map_rel hρ c)⟩
  | build z ps =>
    simp only [PK.ev] at e ⊢
    obtain ⟨r, q, rfl⟩ := Option.map_eq_some_iff.1 e
    obtain ⟨r', q1, q2⟩ := fillIn_rel hρ ps (lits_rel hc) q
    rw [q1]; exact ⟨_, rfl, .mkAgg q2⟩
  | nilchk x =>
    simp only [PK.ev] at e ⊢
    have hx := hρ x
    generalize ρ x = u at *
    generalize ρ' x = w at *
    cases hx <;> simp only at e ⊢ <;> first | (cases e; done) | (cases e; refine ⟨_, rfl, ?_⟩; first | exact .bool _ | exact .int _ _ | exact .str _ | exact .ptr ‹_› | exact .sl ‹_› | exact .nilsl | exact .map ‹_› | exact .nilmap | exact .fn ‹_› ‹_› ‹_› ‹_› | exact .yield ‹_› | exact .iface ‹_› | exact .agg ‹_› ‹_› | exact .tup ‹_› ‹_›)
  | lenStr x =>
    simp only [PK.ev] at e ⊢
    split at e
    · rename_i q; cases e; have := (I _ _ q).inv; simp only at this; rw [this]; exact ⟨_, rfl, .int _ _⟩
    · cases e
  | lenSl x =>
    simp only [PK.ev] at e ⊢
    split at e
    · rename_i q; cases e; obtain ⟨_, _, h⟩ := (I _ _ q).inv; rw [h]; exact ⟨_, rfl, .int _ _⟩
    · rename_i q; cases e; have := (I _ _ q).inv; simp only at this; rw [this]; exact ⟨_, rfl, .int _ _⟩
    · cases e
  | lenK n => simp only [PK.ev] at e ⊢; cases e; exact ⟨_, rfl, .int _ _⟩
  | mnmx mx x xs => simp only [PK.ev] at e ⊢; exact evMms_rel (map_rel hρ xs) (hρ x) e
  | unwrap t x =>
    simp only [PK.ev] at e ⊢
    split at e
    · rename_i q
      obtain ⟨w, h1, h2⟩ := (I _ _ q).inv
      rw [h1]; simp only
      split at e
      · rename_i c; cases e; rw [if_pos c]; exact ⟨_, rfl, h2⟩
      · cases e
    · cases e
  | eqIf ok neg x y =>
    simp only [PK.ev] at e ⊢
    obtain ⟨b, q, rfl⟩ := Option.map_eq_some_iff.1 e
    rw [evIf_rel (hρ x) (hρ y) q]
    exact ⟨_, rfl, .bool _⟩
  | byteStr txt x =>
    simp only [PK.ev] at e ⊢
    split at e
    · rename_i q; cases e; have := (I _ _ q).inv; simp only at this; rw [this]
      refine ⟨_, rfl, ?_⟩
      cases txt
      · exact .und _
      · exact .str _
    · cases e
  | idxByte x c =>
    simp only [PK.ev] at e ⊢
    split at e
    · rename_i q1 q2; cases e
      have h1 := (I _ _ q1).inv; have h2 := (I _ _ q2).inv; simp only at h1 h2; rw [h1, h2]
      exact ⟨_, rfl, .int _ _⟩
    · cases e
  | dataSl x =>
    simp only [PK.ev] at e ⊢
    split at e
    · rename_i q
      split at e
      · rename_i c; cases e
        obtain ⟨_, h1, h⟩ := (I _ _ q).inv; rw [h]; simp only
        rw [if_pos c]; exact ⟨_, rfl, .ptr h1⟩
      · cases e
    · rename_i q; cases e; have := (I _ _ q).inv; simp only at this; rw [this]; exact ⟨_, rfl, .nilptr⟩
    · cases e

/-! ### Memory -/
variable {hc h : H} 
/-- Memory's objects tell each other. -/
def HO2 (f : Nm) (hc h : H) : Prop := ∀ i o, hc i = some o → ∀ b, f i = some b → ∃ o', h b = some o' ∧ OI f o o'
theorem HI.ho {G : H} {n : Nat} (I : HI f G n hc h) : HO2 f hc h := fun i o hi b hb => by
  obtain ⟨b', o', h1, h2, h3⟩ := I.at_ i o hi
  rw [h1] at hb; cases hb; exact ⟨o', h2, h3⟩
theorem OI.cells {o : AObj} {cs : List V} {ro : Bool} (h : OI f (.cells cs ro) o) : ∃ ds, o = .cells ds ro ∧ VIs f cs ds := by
  cases o <;> simp only [OI] at h
  obtain ⟨h1, rfl⟩ := h; exact ⟨_, rfl, h1⟩
theorem OI.map {o : AObj} {es : Ents} {c : Nat} (h : OI f (.map es c) o) : ∃ ds, o = .map ds c ∧ L2 (EI f) es ds := by
  cases o <;> simp only [OI] at h
  obtain ⟨h1, rfl⟩ := h; exact ⟨_, rfl, h1⟩
theorem OI.iter {o : AObj} {m : Option Nat} {s : Nat} {se : List Nat} {st : Nat} (h : OI f (.iter m s se st) o) : ∃ m', o = .iter m' s se st ∧ MI f m m' := by
  cases o <;> simp only [OI] at h
  obtain ⟨h1, rfl, rfl, rfl⟩ := h; exact ⟨_, rfl, h1⟩
theorem OI.sit {o : AObj} {s : List UInt8} {p : Nat} (h : OI f (.sit s p) o) : o = .sit s p := by
  cases o <;> simp only [OI] at h
  obtain ⟨rfl, rfl⟩ := h; rfl
theorem OI.loop {o : AObj} {t : Tm} {ps : List Nat} {as bd : IC} {st : LSt} {pd : Option Ex} (h : OI f (.loop t ps as bd st pd) o) : ∃ t', o = .loop t' ps as bd st pd ∧ ∀ i, VI f (t i) (t' i) := by
  cases o <;> simp only [OI] at h
  obtain ⟨h1, rfl, rfl, rfl, rfl, rfl⟩ := h; exact ⟨_, rfl, h1⟩
theorem keyEq_rel {kc : KC} {x y a b : V} {r : Bool} (hx : VI f x a) (hy : VI f y b) (e : keyEq kc x y = some r) : keyEq kc a b = some r := by
  cases kc with
  | one c => exact evEq_rel hx hy e
  | agg cs =>
    unfold keyEq at e
    split at e
    · rename_i q; cases q
    · rename_i q; cases q
      obtain ⟨_, rfl, h1⟩ := hx.inv
      obtain ⟨_, rfl, h2⟩ := hy.inv
      exact evEqs_rel h1 h2 e
    · cases e
theorem findK_rel {kc : KC} {k a : V} (hk : VI f k a) : ∀ {es ds : Ents} {r : Option (V × Nat)}, L2 (EI f) es ds → findK kc k es = some r →
    ∃ r', findK kc a ds = some r' ∧ (match r, r' with | none, none => True | some (v, n), some (w, m) => VI f v w ∧ n = m | _, _ => False)
  | [], ds, r, h, e => by rw [h.nil_inv]; simp only [findK] at e ⊢; cases e; exact ⟨_, rfl, trivial⟩
  | x :: es, ds, r, h, e => by
    obtain ⟨y, ds', rfl, hxy, h'⟩ := h.cons_inv
    simp only [findK] at e ⊢
    split at e
    · rename_i q; cases e
      rw [keyEq_rel hk hxy.1 q]
      exact ⟨_, rfl, hxy.2.1, hxy.2.2⟩
    · rename_i q
      rw [keyEq_rel hk hxy.1 q]
      exact findK_rel hk h' e
    · cases e
theorem setK_rel {kc : KC} {k a v w : V} (hk : VI f k a) (hv : VI f v w) : ∀ {es ds : Ents} {r : V × Nat}, L2 (EI f) es ds → findK kc k es = some (some r) → L2 (EI f) (setK kc k v es) (setK kc a w ds)
  | [], ds, r, h, e => by simp [findK] at e
  | x :: es, ds, r, h, e => by
    obtain ⟨y, ds', rfl, hxy, h'⟩ := h.cons_inv
    simp only [findK] at e
    simp only [setK]
    split at e
    · rename_i q
      rw [if_pos q, if_pos (keyEq_rel hk hxy.1 q)]
      exact .cons ⟨hk, hv, hxy.2.2⟩ h'
    · rename_i q
      rw [if_neg (by rw [q]; simp), if_neg (by rw [keyEq_rel hk hxy.1 q]; simp)]
      exact .cons hxy (setK_rel hk hv h' e)
    · cases e
theorem delK_rel {kc : KC} {k a : V} (hk : VI f k a) : ∀ {es ds : Ents} {r : Option (V × Nat)}, L2 (EI f) es ds → findK kc k es = some r → L2 (EI f) (delK kc k es) (delK kc a ds)
  | [], ds, r, h, e => by rw [h.nil_inv]; exact .nil
  | x :: es, ds, r, h, e => by
    obtain ⟨y, ds', rfl, hxy, h'⟩ := h.cons_inv
    simp only [findK] at e
    simp only [delK]
    split at e
    · rename_i q
      rw [if_pos q, if_pos (keyEq_rel hk hxy.1 q)]
      exact h'
    · rename_i q
      rw [if_neg (by rw [q]; simp), if_neg (by rw [keyEq_rel hk hxy.1 q]; simp)]
      exact .cons hxy (delK_rel hk h' e)
    · cases e
theorem setBorn_rel {n : Nat} {v w : V} (hv : VI f v w) : ∀ {es ds : Ents}, L2 (EI f) es ds → L2 (EI f) (setBorn n v es) (setBorn n w ds)
  | [], ds, h => by rw [h.nil_inv]; exact .nil
  | x :: es, ds, h => by
    obtain ⟨y, ds', rfl, hxy, h'⟩ := h.cons_inv
    simp only [setBorn]
    rw [← hxy.2.2]
    split
    · exact .cons ⟨hxy.1, hv, rfl⟩ h'
    · exact .cons hxy (setBorn_rel hv h')
theorem findBorn_rel {n : Nat} : ∀ {es ds : Ents} {r : V × V}, L2 (EI f) es ds → findBorn n es = some r → ∃ r', findBorn n ds = some r' ∧ VI f r.1 r'.1 ∧ VI f r.2 r'.2
  | [], ds, r, h, e => by cases e
  | x :: es, ds, r, h, e => by
    obtain ⟨y, ds', rfl, hxy, h'⟩ := h.cons_inv
    simp only [findBorn] at e ⊢
    rw [← hxy.2.2]
    split at e
    · rename_i c; cases e; rw [if_pos c]; exact ⟨_, rfl, hxy.1, hxy.2.1⟩
    · rename_i c; rw [if_neg c]; exact findBorn_rel h' e
theorem RK_rel (hρ : ∀ x, VI f (ρ x) (ρ' x)) (hh : HO2 f hc h) (hbw : ∀ i b, f i = some b → (isB i → isB b) ∧ (isW i → isW b)) {k : RK} {v : V} (hz : k.okc = true) (e : k.ev ρ hc = some v) : ∃ w, k.ev ρ' h = some w ∧ VI f v w := by
  have I : ∀ x y, ρ x = y → VI f y (ρ' x) := fun x y q => q ▸ hρ x
  cases k with
  | load n g x =>
    simp only [RK.ev] at e ⊢
    split at e
    · rename_i q
      obtain ⟨b', h1, h2⟩ := (I _ _ q).inv
      rw [h2]; simp only
      split at e
      · rename_i q2
        obtain ⟨o', h3, h4⟩ := hh _ _ q2 _ h1
        obtain ⟨ds, rfl, h5⟩ := h4.cells
        rw [h3]; exact partOf_rel h5 e
      · cases e
    · cases e
  | lookup kc zero ok m k =>
    simp only [RK.ev] at e ⊢
    split at e
    · rename_i q
      rw [if_pos (keyEq_rel (hρ k) (hρ k) q)]
      have hz' : VI f zero zero := .lit 5 _ hz
      have zr : VI f (if ok then .tup [zero, .bool false] else zero) (if ok then .tup [zero, .bool false] else zero) := by
        cases ok
        · exact hz'
        · exact .mkTup (.cons hz' (.cons (.bool _) .nil))
      split at e
      · rename_i q; have := (I _ _ q).inv; simp only at this; rw [this]; cases e; exact ⟨_, rfl, zr⟩
      · rename_i q
        obtain ⟨b', h1, h2⟩ := (I _ _ q).inv
        rw [h2]; simp only
        split at e
        · rename_i q2
          obtain ⟨o', h3, h4⟩ := hh _ _ q2 _ h1
          obtain ⟨ds, rfl, h5⟩ := h4.map
          rw [h3]; simp only
          split at e
          · rename_i v' u q3; cases e
            obtain ⟨r', h6, h7⟩ := findK_rel (hρ k) h5 q3
            rw [h6]
            cases r' with
            | none => exact h7.elim
            | some r' =>
              obtain ⟨w, m'⟩ := r'
              refine ⟨_, rfl, ?_⟩
              cases ok
              · exact h7.1
              · exact .mkTup (.cons h7.1 (.cons (.bool _) .nil))
          · rename_i q3; cases e
            obtain ⟨r', h6, h7⟩ := findK_rel (hρ k) h5 q3
            rw [h6]
            cases r' with
            | none => exact ⟨_, rfl, zr⟩
            | some r' => exact h7.elim
          · cases e
        · cases e
      · cases e
    · cases e
  | lenMap m =>
    simp only [RK.ev] at e ⊢
    split at e
    · rename_i q; have := (I _ _ q).inv; simp only at this; rw [this]; cases e; exact ⟨_, rfl, .int _ _⟩
    · rename_i q
      obtain ⟨b', h1, h2⟩ := (I _ _ q).inv
      rw [h2]; simp only
      split at e
      · rename_i q2
        obtain ⟨o', h3, h4⟩ := hh _ _ q2 _ h1
        obtain ⟨ds, rfl, h5⟩ := h4.map
        rw [h3]; cases e; rw [h5.1]; exact ⟨_, rfl, .int _ _⟩
      · cases e
    · cases e
  | toStr x =>
    simp only [RK.ev] at e ⊢
    split at e
    · rename_i q; have := (I _ _ q).inv; simp only at this; rw [this]; cases e; exact ⟨_, rfl, .str _⟩
    · rename_i q
      obtain ⟨b', h1, h2⟩ := (I _ _ q).inv
      rw [h2]; simp only
      split at e
      · rename_i q2
        obtain ⟨o', h3, h4⟩ := hh _ _ q2 _ h1
        obtain ⟨ds, rfl, h5⟩ := h4.cells
        rw [h3]; simp only
        split at e
        · rename_i c
          rw [if_pos ⟨c.1, by rw [← h5.1]; exact c.2⟩]
          obtain ⟨s, q3, rfl⟩ := Option.map_eq_some_iff.1 e
          rw [bytesOf_rel ((h5.drop _).take _) q3]
          exact ⟨_, rfl, .str _⟩
        · cases e
      · cases e
    · cases e
  | entry it =>
    simp only [RK.ev] at e ⊢
    split at e
    · rename_i i q
      obtain ⟨b', h1, h2⟩ := (I _ _ q).inv
      rw [h2]; simp only
      split at e
      · rename_i q2
        obtain ⟨o', h3, h4⟩ := hh _ _ q2 _ h1
        obtain ⟨m', rfl, h5⟩ := h4.iter
        rw [h3]
        cases m' with
        | none => exact h5.elim
        | some m' =>
          simp only at h5 ⊢
          split at e
          · rename_i q3
            obtain ⟨o', h6, h7⟩ := hh _ _ q3 _ h5
            obtain ⟨ds, rfl, h8⟩ := h7.map
            rw [h6]; simp only
            split at e
            · rename_i q4
              try rw [q4]
              try simp only
              split at e
              · rename_i c
                rw [if_pos c]
                obtain ⟨⟨r1, r2⟩, q5, rfl⟩ := Option.map_eq_some_iff.1 e
                obtain ⟨r', h9, h10, h11⟩ := findBorn_rel h8 q5
                rw [h9]
                exact ⟨_, rfl, .mkTup (.cons h10 (.cons h11 .nil))⟩
              · cases e
            · cases e
          · cases e
      · cases e
    · cases e
  | slArr len es x l hh' =>
    simp only [RK.ev] at e ⊢
    split at e
    · rename_i q
      obtain ⟨b', h1, h2⟩ := (I _ _ q).inv
      rw [h2]; simp only
      split at e
      · rename_i q2
        obtain ⟨o', h3, h4⟩ := hh _ _ q2 _ h1
        obtain ⟨ds, rfl, h5⟩ := h4.cells
        rw [h3]; simp only
        split at e
        · rename_i c
          rw [if_pos (by rw [← h5.1]; exact c)]
          obtain ⟨⟨i, j⟩, q3, rfl⟩ := Option.map_eq_some_iff.1 e
          rw [evBounds_rel hρ q3]
          exact ⟨_, rfl, .sl h1⟩
        · cases e
      · cases e
    · cases e
  | idxSub g x y => cases hz
  | uns x =>
    simp only [RK.ev] at e ⊢
    split at e
    · rename_i q
      obtain ⟨b', h1, h2⟩ := (I _ _ q).inv
      rw [h2]; simp only
      split at e
      · rename_i q2
        obtain ⟨o', h3, h4⟩ := hh _ _ q2 _ h1
        obtain ⟨ds, rfl, h5⟩ := h4.cells
        rw [h3]; simp only
        split at e
        · rename_i c
          cases e
          rw [if_pos ((hbw _ _ h1).2 c)]
          exact ⟨_, rfl, .ptr h1⟩
        · cases e
      · cases e
    · cases e
theorem zeros_rel {z : List V} (h : VIs f z z) (n : Nat) : VIs f (zeros z n) (zeros z n) := by
  induction n with
  | zero => exact .nil
  | succ n ih =>
    have : zeros z (n + 1) = z ++ zeros z n := by simp [zeros, List.replicate_succ]
    rw [this]; exact h.append ih
theorem bytesIn_rel (s : List UInt8) : VIs f (bytesIn s) (bytesIn s) := L2.refl' fun x hx => by
  obtain ⟨c, _, rfl⟩ := List.mem_map.1 hx; exact .int _ _
theorem AK_rel (hρ : ∀ x, VI f (ρ x) (ρ' x)) {k : AK} {x : AObj} {g : Nat → V} (hz : k.okc = true) (e : k.ev ρ = some (x, g)) :
    ∃ x' g', k.ev ρ' = some (x', g') ∧ OI f x x' ∧ ∀ (f' : Nm) i b, f' i = some b → VI f' (g i) (g' b) := by
  have I : ∀ x y, ρ x = y → VI f y (ρ' x) := fun x y q => q ▸ hρ x
  cases k with
  | allocW z => simp only [AK.ev] at e ⊢; cases e; exact ⟨_, _, rfl, ⟨lits_rel hz, rfl⟩, fun f' i b q => .ptr q⟩
  | alloc z => simp only [AK.ev] at e ⊢; cases e; exact ⟨_, _, rfl, ⟨lits_rel hz, rfl⟩, fun f' i b q => .ptr q⟩
  | box x =>
    simp only [AK.ev] at e ⊢
    split at e
    · rename_i c; cases e
      obtain ⟨h1, h2⟩ := (hρ x).cells c
      rw [if_pos h2]
      exact ⟨_, _, rfl, ⟨h1, rfl⟩, fun f' i b q => .ptr q⟩
    · cases e
  | mkSl z es len ps =>
    simp only [AK.ev] at e ⊢
    obtain ⟨r, q, e2⟩ := Option.map_eq_some_iff.1 e
    cases e2
    obtain ⟨r', q1, q2⟩ := fillIn_rel hρ ps (zeros_rel (lits_rel hz) len) q
    rw [q1]
    exact ⟨_, _, rfl, ⟨q2, rfl⟩, fun f' i b q => .sl q⟩
  | mkMap => simp only [AK.ev] at e ⊢; cases e; exact ⟨_, _, rfl, ⟨.nil, rfl⟩, fun f' i b q => .map q⟩
  | make z es bytes l c =>
    simp only [AK.ev] at e ⊢
    split at e
    · rename_i q1 q2
      have h1 := (I _ _ q1).inv; have h2 := (I _ _ q2).inv; simp only at h1 h2; rw [h1, h2]; simp only
      split at e
      · rename_i c; cases e
        rw [if_pos c]
        exact ⟨_, _, rfl, ⟨zeros_rel (lits_rel hz) _, rfl⟩, fun f' i b q => .sl q⟩
      · cases e
    · cases e
  | toBytes x =>
    simp only [AK.ev] at e ⊢
    split at e
    · rename_i q1
      have h1 := (I _ _ q1).inv; simp only at h1; rw [h1]; cases e
      exact ⟨_, _, rfl, ⟨bytesIn_rel _, rfl⟩, fun f' i b q => .sl q⟩
    · cases e
theorem srcCells_rel (hh : HO2 f hc h) {es n : Nat} {v w : V} {new : List V} (hv : VI f v w) (e : srcCells es hc v = some (n, new)) : ∃ new', srcCells es h w = some (n, new') ∧ VIs f new new' := by
  unfold srcCells at e
  split at e
  · have := hv.inv; simp only at this; subst this; cases e; exact ⟨_, rfl, .nil⟩
  · have := hv.inv; simp only at this; subst this
    split at e
    · rename_i c; cases e; simp only [srcCells]; rw [if_pos c]; exact ⟨_, rfl, bytesIn_rel _⟩
    · cases e
  · obtain ⟨b', h1, rfl⟩ := hv.inv
    split at e
    · rename_i q2
      obtain ⟨o', h3, h4⟩ := hh _ _ q2 _ h1
      obtain ⟨ds, rfl, h5⟩ := h4.cells
      split at e
      · rename_i c; cases e
        simp only [srcCells, h3]
        rw [if_pos ⟨c.1, by rw [← h5.1]; exact c.2⟩]
        exact ⟨_, rfl, (h5.drop _).take _⟩
      · cases e
    · cases e
  · cases e
end Mir
