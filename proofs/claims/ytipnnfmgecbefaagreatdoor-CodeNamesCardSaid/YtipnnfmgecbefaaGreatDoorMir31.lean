import Derived.Test.YtipnnfmgecbefaaGreatDoorMir29
/- The mirror, part 31: maps keyed by texts, as lists; frames. -/
set_option linter.unusedSimpArgs false
set_option linter.unusedVariables false
namespace Mir
open Go
abbrev Txt := List UInt8
/-- A map's content, by its keys in the order in which they came. -/
structure Rep (es : Ents) (clock : Nat) (l : List (Txt × V)) : Prop where
  eq : es.map (fun e => (e.1, e.2.1)) = l.map fun p => (V.str p.1, p.2)
  keys : (l.map (·.1)).Nodup
  born : (es.map fun e => e.2.2).Nodup
  old : ∀ e ∈ es, e.2.2 < clock
def getL {α : Type} (l : List (Txt × α)) (k : Txt) : Option α := (l.find? fun p => p.1 == k).map (·.2)
def putL {α : Type} (l : List (Txt × α)) (k : Txt) (v : α) : List (Txt × α) := if (getL l k).isSome then l.map (fun p => if p.1 == k then (k, v) else p) else l ++ [(k, v)]
def delL {α : Type} (l : List (Txt × α)) (k : Txt) : List (Txt × α) := l.filter fun p => !(p.1 == k)
section
variable {α β : Type} {l : List (Txt × α)} {k k' : Txt} {v : α}
theorem getL_nil : getL ([] : List (Txt × α)) k = none := rfl
theorem getL_cons {p : Txt × α} : getL (p :: l) k = if p.1 = k then some p.2 else getL l k := by
  by_cases e : p.1 = k
  · simp [getL, List.find?, e]
  · have : (p.1 == k) = false := beq_eq_false_iff_ne.2 e
    simp [getL, List.find?, e, this]
theorem getL_map {f : α → β} : getL (l.map fun p => (p.1, f p.2)) k = (getL l k).map f := by
  induction l with
  | nil => rfl
  | cons p l ih => rw [List.map_cons, getL_cons, getL_cons]; simp only; split <;> simp [ih]
theorem getL_mem (e : getL l k = some v) : (k, v) ∈ l := by
  induction l with
  | nil => cases e
  | cons p l ih =>
    rw [getL_cons] at e
    split at e
    · rename_i hp; cases e; subst hp; exact List.mem_cons_self
    · exact List.mem_cons_of_mem _ (ih e)
theorem getL_none : getL l k = none ↔ k ∉ l.map (·.1) := by
  induction l with
  | nil => simp [getL]
  | cons p l ih =>
    rw [getL_cons, List.map_cons, List.mem_cons, not_or]
    split
    · rename_i hp; simp [hp]
    · rename_i hp; rw [ih]; exact ⟨fun x => ⟨fun e => hp e.symm, x⟩, fun x => x.2⟩
theorem getL_of_mem (hn : (l.map (·.1)).Nodup) (e : (k, v) ∈ l) : getL l k = some v := by
  induction l with
  | nil => cases e
  | cons p l ih =>
    rw [List.map_cons, List.nodup_cons] at hn
    rw [getL_cons]
    rcases List.mem_cons.1 e with rfl | e
    · simp
    · have : p.1 ≠ k := fun x => hn.1 (by rw [x]; exact List.mem_map.2 ⟨_, e, rfl⟩)
      rw [if_neg this]; exact ih hn.2 e
theorem putL_new (e : getL l k = none) : putL l k v = l ++ [(k, v)] := by simp [putL, e]
theorem putL_old {u : α} (e : getL l k = some u) : putL l k v = l.map (fun p => if p.1 == k then (k, v) else p) := by simp [putL, e]
theorem getL_append {m : List (Txt × α)} : getL (l ++ m) k = (getL l k).or (getL m k) := by
  induction l with
  | nil => simp [getL_nil]
  | cons p l ih => rw [List.cons_append, getL_cons, getL_cons]; split <;> simp [ih]
theorem getL_repl : getL (l.map (fun p => if p.1 == k then (k, v) else p)) k' = if k' = k then (getL l k).map (fun _ => v) else getL l k' := by
  induction l with
  | nil => simp [getL_nil]
  | cons p l ih =>
    rw [List.map_cons, getL_cons, getL_cons, getL_cons, ih]
    by_cases hp : p.1 = k
    · simp only [hp, beq_self_eq_true, if_true]
      by_cases h' : k' = k
      · simp [h']
      · simp [h', Ne.symm h']
    · simp only [beq_eq_false_iff_ne.2 hp, Bool.false_eq_true, if_false, if_neg hp]
      by_cases h' : k' = k
      · subst h'; simp [hp]
      · simp [h']
theorem getL_put : getL (putL l k v) k' = if k' = k then some v else getL l k' := by
  cases e : getL l k with
  | none =>
    rw [putL_new e, getL_append, getL_cons, getL_nil]
    by_cases h : k' = k
    · subst h; simp [e]
    · simp [h, Ne.symm h]
  | some u => rw [putL_old e, getL_repl, e]; rfl
theorem getL_del : getL (delL l k) k' = if k' = k then none else getL l k' := by
  induction l with
  | nil => simp [delL, getL_nil]
  | cons p l ih =>
    by_cases hp : p.1 = k
    · have : delL (p :: l) k = delL l k := by simp [delL, hp]
      rw [this, ih, getL_cons]
      by_cases h' : k' = k
      · simp [h']
      · have : ¬ p.1 = k' := fun x => h' (x ▸ hp)
        simp [h', this]
    · have : delL (p :: l) k = p :: delL l k := by simp [delL, hp]
      rw [this, getL_cons, ih, getL_cons]
      by_cases h' : k' = k
      · subst h'; simp [hp]
      · simp [h']
theorem keys_put_old {u : α} (e : getL l k = some u) : (putL l k v).map (·.1) = l.map (·.1) := by
  rw [putL_old e, List.map_map]
  refine List.map_congr_left fun p hp => ?_
  simp only [Function.comp]
  split
  · rename_i h; exact (by simpa using h : p.1 = k).symm
  · rfl
theorem keys_put (hn : (l.map (·.1)).Nodup) : ((putL l k v).map (·.1)).Nodup := by
  cases e : getL l k with
  | some u => rw [keys_put_old e]; exact hn
  | none =>
    rw [putL_new e, List.map_append, List.nodup_append]
    refine ⟨hn, by simp, fun a ha b hb => ?_⟩
    simp only [List.map_cons, List.map_nil, List.mem_singleton] at hb
    subst hb
    exact fun x => getL_none.1 e (x ▸ ha)
theorem keys_del (hn : (l.map (·.1)).Nodup) : ((delL l k).map (·.1)).Nodup := hn.sublist (List.Sublist.map _ List.filter_sublist)
theorem putL_map {f : α → β} : putL (l.map fun p => (p.1, f p.2)) k (f v) = (putL l k v).map fun p => (p.1, f p.2) := by
  unfold putL
  rw [getL_map]
  cases e : getL l k with
  | none => simp
  | some u =>
    simp only [Option.map_some, Option.isSome_some, if_true, List.map_map]
    refine List.map_congr_left fun p hp => ?_
    simp only [Function.comp]
    split <;> rfl
theorem delL_map {f : α → β} : delL (l.map fun p => (p.1, f p.2)) k = (delL l k).map fun p => (p.1, f p.2) := by
  unfold delL
  rw [List.filter_map]; rfl
end
theorem keq {a b : Txt} : keyEq (.one .str) (.str a) (.str b) = some (decide (a = b)) := by simp only [keyEq, evq_str]
theorem Rep.find {es : Ents} {clock : Nat} {l : List (Txt × V)} (R : Rep es clock l) (k : Txt) : (∃ n, findK (.one .str) (.str k) es = some ((getL l k).map fun v => (v, n))) := by
  obtain ⟨eq, hk, hb, ho⟩ := R
  clear hk hb ho
  induction es generalizing l with
  | nil => cases l with
    | nil => exact ⟨0, rfl⟩
    | cons p l => cases eq
  | cons e es ih =>
    cases l with
    | nil => cases eq
    | cons p l =>
      rw [List.map_cons, List.map_cons, List.cons.injEq] at eq
      obtain ⟨e1, e2⟩ := eq
      have h1 : e.1 = .str p.1 := congrArg Prod.fst e1
      have h2 : e.2.1 = p.2 := congrArg Prod.snd e1
      simp only [findK, h1, keq, getL_cons]
      by_cases hp : k = p.1
      · rw [decide_eq_true hp, if_pos hp.symm]; exact ⟨e.2.2, by rw [h2]; rfl⟩
      · rw [decide_eq_false hp, if_neg (Ne.symm hp)]; exact ih e2
theorem setK_map {es : Ents} {l : List (Txt × V)} {k : Txt} {v : V} (eq : es.map (fun e => (e.1, e.2.1)) = l.map fun p => (V.str p.1, p.2)) (hn : (l.map (·.1)).Nodup) :
    (setK (.one .str) (.str k) v es).map (fun e => (e.1, e.2.1)) = (l.map (fun p => if p.1 == k then (k, v) else p)).map (fun p => (V.str p.1, p.2)) ∧ (setK (.one .str) (.str k) v es).map (fun e => e.2.2) = es.map fun e => e.2.2 := by
  induction es generalizing l with
  | nil => cases l with
    | nil => exact ⟨rfl, rfl⟩
    | cons p l => cases eq
  | cons e es ih =>
    cases l with
    | nil => cases eq
    | cons p l =>
      rw [List.map_cons, List.map_cons, List.cons.injEq] at eq
      rw [List.map_cons, List.nodup_cons] at hn
      obtain ⟨e1, e2⟩ := eq
      have h1 : e.1 = .str p.1 := congrArg Prod.fst e1
      have h2 : e.2.1 = p.2 := congrArg Prod.snd e1
      simp only [setK, h1, keq]
      by_cases hp : k = p.1
      · subst hp
        simp only [decide_true, if_true, List.map_cons, beq_self_eq_true]
        refine ⟨?_, trivial⟩
        rw [e2]
        congr 1
        rw [List.map_map]
        refine List.map_congr_left fun q hq => ?_
        have : q.1 ≠ p.1 := fun x => hn.1 (x ▸ List.mem_map.2 ⟨q, hq, rfl⟩)
        simp [this]
      · simp only [decide_eq_false hp, Option.some.injEq, Bool.false_eq_true, if_false, List.map_cons]
        obtain ⟨i1, i2⟩ := ih e2 hn.2
        rw [i1, i2]
        refine ⟨?_, rfl⟩
        have : (p.1 == k) = false := beq_eq_false_iff_ne.2 (Ne.symm hp)
        simp only [this, Bool.false_eq_true, if_false, h1, h2]
theorem Rep.set {es : Ents} {clock : Nat} {l : List (Txt × V)} (R : Rep es clock l) {k : Txt} {u v : V} (e : getL l k = some u) : Rep (setK (.one .str) (.str k) v es) clock (putL l k v) := by
  obtain ⟨i1, i2⟩ := setK_map (k := k) (v := v) R.eq R.keys
  refine ⟨by rw [putL_old e]; exact i1, keys_put R.keys, by rw [i2]; exact R.born, fun x hx => ?_⟩
  have : x.2.2 ∈ (setK (.one .str) (.str k) v es).map (fun e => e.2.2) := List.mem_map.2 ⟨x, hx, rfl⟩
  rw [i2] at this
  obtain ⟨y, hy, hxy⟩ := List.mem_map.1 this
  rw [← hxy]; exact R.old y hy
theorem Rep.add {es : Ents} {clock : Nat} {l : List (Txt × V)} (R : Rep es clock l) {k : Txt} {v : V} (e : getL l k = none) : Rep (es ++ [(.str k, v, clock)]) (clock + 1) (putL l k v) := by
  refine ⟨by rw [putL_new e, List.map_append, List.map_append, R.eq]; rfl, keys_put R.keys, ?_, fun x hx => ?_⟩
  · rw [List.map_append, List.nodup_append]
    refine ⟨R.born, by simp, fun a ha b hb => ?_⟩
    simp only [List.map_cons, List.map_nil, List.mem_singleton] at hb
    obtain ⟨y, hy, hxy⟩ := List.mem_map.1 ha
    have := R.old y hy
    omega
  · rcases List.mem_append.1 hx with hx | hx
    · have := R.old x hx; omega
    · simp only [List.mem_singleton] at hx; subst hx; simp
theorem delK_map {es : Ents} {l : List (Txt × V)} {k : Txt} (eq : es.map (fun e => (e.1, e.2.1)) = l.map fun p => (V.str p.1, p.2)) (hn : (l.map (·.1)).Nodup) :
    (delK (.one .str) (.str k) es).map (fun e => (e.1, e.2.1)) = (delL l k).map (fun p => (V.str p.1, p.2)) ∧ (delK (.one .str) (.str k) es).Sublist es := by
  induction es generalizing l with
  | nil => cases l with
    | nil => exact ⟨rfl, List.Sublist.refl _⟩
    | cons p l => cases eq
  | cons e es ih =>
    cases l with
    | nil => cases eq
    | cons p l =>
      rw [List.map_cons, List.map_cons, List.cons.injEq] at eq
      rw [List.map_cons, List.nodup_cons] at hn
      obtain ⟨e1, e2⟩ := eq
      have h1 : e.1 = .str p.1 := congrArg Prod.fst e1
      simp only [delK, h1, keq]
      by_cases hp : k = p.1
      · subst hp
        simp only [decide_true, if_true]
        refine ⟨?_, List.sublist_cons_self _ _⟩
        have : delL (p :: l) p.1 = l := by
          simp only [delL, List.filter_cons, beq_self_eq_true, Bool.not_true, Bool.false_eq_true, if_false]
          refine List.filter_eq_self.2 fun q hq => ?_
          have : q.1 ≠ p.1 := fun x => hn.1 (x ▸ List.mem_map.2 ⟨q, hq, rfl⟩)
          simp [this]
        rw [this]; exact e2
      · simp only [decide_eq_false hp, Option.some.injEq, Bool.false_eq_true, if_false, List.map_cons]
        obtain ⟨i1, i2⟩ := ih e2 hn.2
        have : delL (p :: l) k = p :: delL l k := by
          have : (p.1 == k) = false := beq_eq_false_iff_ne.2 (Ne.symm hp)
          simp [delL, this]
        rw [this, List.map_cons, i1]
        exact ⟨by rw [e1], i2.cons_cons _⟩
theorem Rep.del {es : Ents} {clock : Nat} {l : List (Txt × V)} (R : Rep es clock l) {k : Txt} : Rep (delK (.one .str) (.str k) es) clock (delL l k) := by
  obtain ⟨i1, i2⟩ := delK_map (k := k) R.eq R.keys
  exact ⟨i1, keys_del R.keys, R.born.sublist (i2.map _), fun x hx => R.old x (i2.subset hx)⟩
theorem Rep.nil {clock : Nat} : Rep [] clock [] := ⟨rfl, by simp, by simp, fun _ h => by cases h⟩
theorem Rep.len {es : Ents} {clock : Nat} {l : List (Txt × V)} (R : Rep es clock l) : es.length = l.length := by simpa using congrArg List.length R.eq
/-- What an update of the map leaves. -/
theorem Rep.put {es : Ents} {clock : Nat} {l : List (Txt × V)} (R : Rep es clock l) {k : Txt} {v : V} {b : Nat} {h : H} :
    ∃ es' clock', muF (findK (.one .str) (.str k) es) (.one .str) b es clock (.str k) v h = some (.undef, hadd h b (.map es' clock')) ∧ Rep es' clock' (putL l k v) := by
  obtain ⟨n, hn⟩ := R.find k
  cases e : getL l k with
  | none => rw [e] at hn; rw [hn]; exact ⟨_, _, rfl, R.add e⟩
  | some u => rw [e] at hn; rw [hn]; exact ⟨_, _, rfl, R.set e⟩
theorem Rep.look {es : Ents} {clock : Nat} {l : List (Txt × V)} (R : Rep es clock l) {k : Txt} {z : V} : luF (findK (.one .str) (.str k) es) z false = some ((getL l k).getD z) := by
  obtain ⟨n, hn⟩ := R.find k
  rw [hn]; cases getL l k <;> rfl
theorem Rep.dele {es : Ents} {clock : Nat} {l : List (Txt × V)} (R : Rep es clock l) {k : Txt} {b : Nat} {h : H} : dlF (findK (.one .str) (.str k) es) (.one .str) b es clock (.str k) h = some (.undef, hadd h b (.map (delK (.one .str) (.str k) es) clock)) := by
  obtain ⟨n, hn⟩ := R.find k
  rw [hn]; rfl
/-! ### Frames -/
/-- Whatever lies outside of F is kept; whatever F' has more than F was free. -/
structure Step (F F' : Nat → Prop) (h h' : H) : Prop where
  keep : ∀ b o, ¬ F b → h b = some o → h' b = some o
  new : ∀ b, F' b → F b ∨ h b = none
theorem hadd_self {h : H} {b : Nat} {o : AObj} (e : h b = some o) : hadd h b o = h := by
  funext i; simp only [hadd, hset]; split
  · rename_i x; subst x; exact e.symm
  · rfl
/-! ### A map's entry, taken first and written later -/
def meF (r : Option (Option (V × Nat))) (kc : KC) (zero : V) (b : Nat) (es : Ents) (clock : Nat) (k : V) (h : H) : Option (V × H) := match r with
      | some (some (v, n)) => some (.tup [v, .int .i64 n], hadd h b (.map (setK kc k v es) clock))
      | some none => some (.tup [zero, .int .i64 clock], hadd h b (.map (es ++ [(k, zero, clock)]) (clock + 1)))
      | none => none
def meC (ob : Option AObj) (kc : KC) (zero : V) (b : Nat) (k : V) (h : H) : Option (V × H) := match ob with
  | some (.map es clock) => if keyEq kc k k = some true then meF (findK kc k es) kc zero b es clock k h else none
  | _ => none
def meEv (kc : KC) (zero : V) (h : H) (m k : V) : Option (V × H) := match m with | .map b => meC (h b) kc zero b k h | _ => none
section
variable {call : CP} {a : A} {h : H} {K : A → H → Prop} {d : Option Nat} {i : Nat} {w : List Nat} {l : List IOp}
theorem opsE_mapEntry' (kc : KC) (z : V) (m k : Opd) : opsE call (⟨d, none, .h (.mapEntry kc z m k), i, w⟩ :: l) a h K = goH (meEv kc z h (m.ev a.t) (k.ev a.t)) d call l a K := by
  simp only [opsE, guardOk, wantedE, stepE, HK.E, meEv, meC, meF, true_and, if_true]
  cases m.ev a.t <;> try rfl
  rename_i b
  dsimp only
  cases h b with
  | none => rfl
  | some ob =>
    cases ob <;> try rfl
    rename_i es clock
    dsimp only
    by_cases c : keyEq kc (k.ev a.t) (k.ev a.t) = some true
    · rw [if_pos c]
      simp only [c, true_and]
      cases findK kc (k.ev a.t) es with
      | none => rfl
      | some r => cases r <;> rfl
    · rw [if_neg c]; simp only [c, false_and]; rfl
theorem me_map {kc : KC} {b : Nat} {k z : V} : meEv kc z h (.map b) k = meC (h b) kc z b k h := (rfl)
theorem meC_map {kc : KC} {b : Nat} {k z : V} {es : Ents} {clock : Nat} (hk : keyEq kc k k = some true) : meC (some (.map es clock)) kc z b k h = meF (findK kc k es) kc z b es clock k h := by simp [meC, hk]
def esC (ob : Option AObj) (b : Nat) (n : Int) (v : V) (h : H) : Option (V × H) := match ob with
  | some (.map es clock) => if 0 ≤ n ∧ (findBorn n.toNat es).isSome = true then some (.undef, hadd h b (.map (setBorn n.toNat v es) clock)) else none
  | _ => none
def esEv (h : H) (m s v : V) : Option (V × H) := match m, s with | .map b, .int .i64 n => esC (h b) b n v h | _, _ => none
theorem opsE_entryStore' (m s v : Opd) : opsE call (⟨d, none, .h (.entryStore m s v), i, w⟩ :: l) a h K = goH (esEv h (m.ev a.t) (s.ev a.t) (v.ev a.t)) d call l a K := by
  simp only [opsE, guardOk, wantedE, stepE, HK.E, esEv, esC, true_and, if_true]
  generalize m.ev a.t = mv
  generalize s.ev a.t = sv
  cases mv <;> try rfl
  rename_i b
  cases sv <;> try rfl
  rename_i k n
  cases k <;> try rfl
  dsimp only
  generalize h b = o
  rcases o with _ | ob
  · rfl
  · cases ob <;> try rfl
    rename_i es clock
    dsimp only
    by_cases c : 0 ≤ n ∧ (findBorn n.toNat es).isSome = true
    · rw [if_pos c]; simp only [c, true_and]; rfl
    · rw [if_neg c]; simp only [goH]
      apply propext; constructor
      · intro q; exact c ⟨q.1, q.2.1⟩
      · exact False.elim
theorem es_map {b : Nat} {n : Int} {v : V} : esEv h (.map b) (.int .i64 n) v = esC (h b) b n v h := (rfl)
theorem esC_map {es : Ents} {clock b n : Nat} {v : V} (hf : (findBorn n es).isSome = true) : esC (some (.map es clock)) b (n : Int) v h = some (.undef, hadd h b (.map (setBorn n v es) clock)) := by
  simp [esC, hf]
end
theorem findK_set {es : Ents} {k : Txt} {v : V} {u : V × Nat} (e : findK (.one .str) (.str k) es = some (some u)) : findK (.one .str) (.str k) (setK (.one .str) (.str k) v es) = some (some (v, u.2)) := by
  induction es with
  | nil => cases e
  | cons x es ih =>
    simp only [findK] at e
    simp only [setK]
    cases hk : keyEq (.one .str) (.str k) x.1 with
    | none => rw [hk] at e; cases e
    | some b =>
      cases b
      · rw [hk] at e; simp only [Option.some.injEq, Bool.false_eq_true, if_false, findK, hk]; exact ih e
      · rw [hk] at e
        simp only [if_true, findK, keq, decide_true]
        simp only [Option.some.injEq] at e; rw [← e]
theorem findK_new {es : Ents} {k : Txt} {v : V} {n : Nat} (e : findK (.one .str) (.str k) es = some none) : findK (.one .str) (.str k) (es ++ [(.str k, v, n)]) = some (some (v, n)) := by
  induction es with
  | nil => simp [findK, keq]
  | cons x es ih =>
    simp only [findK, List.cons_append] at e ⊢
    cases hk : keyEq (.one .str) (.str k) x.1 with
    | none => rw [hk] at e; cases e
    | some b =>
      cases b
      · rw [hk] at e; exact ih e
      · rw [hk] at e; cases e
theorem setBorn_eq {es : Ents} {clock : Nat} {l : List (Txt × V)} (R : Rep es clock l) {k : Txt} {v : V} {u : V × Nat} (e : findK (.one .str) (.str k) es = some (some u)) : setBorn u.2 v es = setK (.one .str) (.str k) v es ∧ (findBorn u.2 es).isSome = true := by
  obtain ⟨eq, hk, hb, ho⟩ := R
  clear hk ho
  induction es generalizing l with
  | nil => cases e
  | cons x es ih =>
    cases l with
    | nil => cases eq
    | cons p l =>
      rw [List.map_cons, List.map_cons, List.cons.injEq] at eq
      rw [List.map_cons, List.nodup_cons] at hb
      obtain ⟨e1, e2⟩ := eq
      have h1 : x.1 = .str p.1 := congrArg Prod.fst e1
      simp only [findK, h1, keq] at e
      simp only [setBorn, setK, h1, keq, findBorn]
      by_cases hp : k = p.1
      · subst hp
        simp only [decide_true, Option.some.injEq] at e
        subst e
        simp
      · simp only [decide_eq_false hp] at e
        have hm : u.2 ∈ es.map fun e => e.2.2 := by
          clear ih hb e2 e1
          induction es with
          | nil => cases e
          | cons y es ih2 =>
            simp only [findK] at e
            split at e
            · simp only [Option.some.injEq] at e; subst e; simp
            · exact List.mem_cons_of_mem _ (ih2 e)
            · cases e
        have hne : x.2.2 ≠ u.2 := fun x => hb.1 (x ▸ hm)
        simp only [if_neg hne, decide_eq_false hp, Option.some.injEq, Bool.false_eq_true, if_false]
        obtain ⟨i1, i2⟩ := ih e e2 hb.2
        rw [i1]; exact ⟨rfl, i2⟩
/-- An entry is taken: what it is written with comes later. -/
theorem Rep.enter {es : Ents} {clock : Nat} {l : List (Txt × V)} (R : Rep es clock l) {k : Txt} {z : V} {b : Nat} {h : H} :
    ∃ es' clock' n v', meF (findK (.one .str) (.str k) es) (.one .str) z b es clock (.str k) h = some (.tup [v', .int .i64 ((n : Nat) : Int)], hadd h b (.map es' clock')) ∧ (findBorn n es').isSome = true ∧ ∀ v, Rep (setBorn n v es') clock' (putL l k v) := by
  obtain ⟨n, hn⟩ := R.find k
  cases e : getL l k with
  | none =>
    rw [e] at hn
    have R' := R.add (v := z) e
    have hf := findK_new (v := z) (n := clock) hn
    refine ⟨_, _, clock, z, by rw [hn]; rfl, (setBorn_eq (v := z) R' hf).2, fun v => ?_⟩
    have := (setBorn_eq (v := v) R' hf).1
    simp only at this
    rw [this]
    have hg : getL (putL l k z) k = some z := by rw [getL_put, if_pos rfl]
    have R2 := R'.set (v := v) hg
    have : putL (putL l k z) k v = putL l k v := by
      rw [putL_old hg, putL_new e, putL_new e, List.map_append]
      congr 1
      · refine (List.map_congr_left fun p hp => ?_).trans (List.map_id _)
        have : p.1 ≠ k := fun x => getL_none.1 e (x ▸ List.mem_map.2 ⟨p, hp, rfl⟩)
        simp [this]
      · simp
    rw [this] at R2; exact R2
  | some u =>
    rw [e] at hn
    have R' := R.set (v := u) e
    have hf := findK_set (v := u) hn
    refine ⟨_, _, n, u, by rw [hn]; rfl, (setBorn_eq (v := u) R' hf).2, fun v => ?_⟩
    have := (setBorn_eq (v := v) R' hf).1
    simp only at this
    rw [this]
    have hg : getL (putL l k u) k = some u := by rw [getL_put, if_pos rfl]
    have R2 := R'.set (v := v) hg
    have : putL (putL l k u) k v = putL l k v := by
      rw [putL_old hg, putL_old e, putL_old e, List.map_map]
      refine List.map_congr_left fun p hp => ?_
      simp only [Function.comp]
      by_cases hp : p.1 = k <;> simp [hp]
    rw [this] at R2; exact R2
attribute [go_sem] opsE_mapEntry' me_map meC_map opsE_entryStore' es_map
/-! Steps. -/
theorem Step.refl {F : Nat → Prop} {h : H} : Step F F h h := ⟨fun _ _ _ e => e, fun _ e => .inl e⟩
theorem Step.put {F F' : Nat → Prop} {h h' : H} (s : Step F F' h h') {b : Nat} {o : AObj} (hb : F b ∨ h b = none) : Step F F' h (hadd h' b o) := by
  refine ⟨fun c u nc hc => ?_, s.new⟩
  have : c ≠ b := fun e => by
    subst e
    rcases hb with hb | hb
    · exact nc hb
    · rw [hb] at hc; cases hc
  rw [hadd_ne' this]; exact s.keep c u nc hc
theorem Step.trans {F F' F'' : Nat → Prop} {h h' h'' : H} (s : Step F F' h h') (s' : Step F' F'' h' h'') : Step F F'' h h'' := by
  refine ⟨fun b o nb hb => ?_, fun b hb => ?_⟩
  · have nb' : ¬ F' b := fun x => by
      rcases s.new b x with e | e
      · exact nb e
      · rw [e] at hb; cases hb
    exact s'.keep b o nb' (s.keep b o nb hb)
  · rcases s'.new b hb with e | e
    · exact s.new b e
    · by_cases nb : F b
      · exact .inl nb
      · refine .inr ?_
        cases hc : h b with
        | none => rfl
        | some o => rw [s.keep b o nb hc] at e; cases e
end Mir

/- The mirror, part 32: regions of open order in which something is read that may be read later. -/
set_option linter.unusedSimpArgs false
set_option linter.unusedVariables false
namespace Mir
open Go
variable {call : CP} {a : A} {h h' : H} {K : A → H → Prop} {d : Option Nat} {g : Option (Nat × Bool)} {i j : Nat} {w : List Nat} {l : List IOp} {t : Tm} {v : V} {W : Reads}
def laterD (call : CP) (l : List IOp) (W : Reads) (a : A) (h : H) (K : A → H → Prop) : Prop := drawE call l W a h K
theorem hold_nil : Reads.hold [] w h = True := by simp [Reads.hold]
theorem hold_no : Reads.hold W [] h = True := by simp [Reads.hold]
theorem hold_cons {rd : Rd} : Reads.hold ((i, rd, v) :: W) w h = ((i ∈ w → rd.1 h = some v) ∧ Reads.hold W w h) := by
  simp [Reads.hold]
theorem drawE_nil : drawE call [] W a h K = K a h := rfl
def goDP (o : Option V) (d : Option Nat) (call : CP) (l : List IOp) (W : Reads) (a : A) (h : H) (K : A → H → Prop) : Prop :=
  match o with | some v => drawE call l W ⟨put a.t d v, a.d⟩ h K | none => False
theorem goDP_some : goDP (some v) d call l W a h K = drawE call l W ⟨put a.t d v, a.d⟩ h K := rfl
theorem drawE_p' (k : PK) : drawE call (⟨d, none, .p k, i, w⟩ :: l) W a h K = goDP (k.ev (Opd.ev a.t)) d call l W a h K := by
  simp only [drawE, guardOk, wantedE, stepE, goDP, true_and, if_true] <;> rfl
def goDR (o : Option V) (rd : Rd) (i : Nat) (d : Option Nat) (call : CP) (l : List IOp) (W : Reads) (a : A) (h : H) (K : A → H → Prop) : Prop :=
  match o with | some v => drawE call l ((i, rd, v) :: W) ⟨put a.t d v, a.d⟩ h K | none => False
theorem rd_at {k : RK} {ρ : Opd → V} {h : H} : (k.rd ρ).1 h = k.ev ρ h := rfl
theorem goDR_some {rd : Rd} : goDR (some v) rd i d call l W a h K = drawE call l ((i, rd, v) :: W) ⟨put a.t d v, a.d⟩ h K := rfl
theorem drawE_r' (k : RK) : drawE call (⟨d, none, .r k, i, w⟩ :: l) W a h K = goDR (k.ev (Opd.ev a.t) h) (k.rd (Opd.ev a.t)) i d call l W a h K := by
  simp only [drawE, guardOk, wantedE, stepE, goDR, true_and, if_true] <;> rfl
def goDA (o : Option (AObj × (Nat → V))) (bp : Nat → Prop) (d : Option Nat) (call : CP) (l : List IOp) (W : Reads) (a : A) (h : H) (K : A → H → Prop) : Prop :=
  match o with | some (x, f) => ∀ b, h b = none → bp b → laterD call l W ⟨put a.t d (f b), a.d⟩ (hadd h b x) K | none => False
theorem goDA_some {bp : Nat → Prop} {x : AObj} {f : Nat → V} : goDA (some (x, f)) bp d call l W a h K = ∀ b, h b = none → bp b → laterD call l W ⟨put a.t d (f b), a.d⟩ (hadd h b x) K := rfl
theorem drawE_a' (k : AK) : drawE call (⟨d, none, .a k, i, w⟩ :: l) W a h K = goDA (k.ev (Opd.ev a.t)) (fun b => k.fits b) d call l W a h K := by
  simp only [drawE, guardOk, wantedE, stepE, goDA, laterD, true_and, if_true] <;> rfl
/-- A heavy one. -/
theorem drawE_h {k : HK} (nd : ∀ f as, k ≠ .dfr f as) : drawE call (⟨d, none, .h k, i, w⟩ :: l) W a h K = k.E call (Opd.ev a.t) h fun v h' => Reads.hold W w h' ∧ drawE call l W ⟨put a.t d v, a.d⟩ h' K := by
  simp only [drawE, guardOk, wantedE, true_and, if_true]
  cases k <;> first | rfl | exact (nd _ _ rfl).elim
def callDE (call : CP) (f : V) (args : List V) (d : Option Nat) (w : List Nat) (l : List IOp) (W : Reads) (a : A) (h : H) (K : A → H → Prop) : Prop :=
  callV call f args h fun v h' => Reads.hold W w h' ∧ laterD call l W ⟨put a.t d v, a.d⟩ h' K
theorem drawE_call' (f : Opd) (args : List Opd) : drawE call (⟨d, none, .h (.call f args), i, w⟩ :: l) W a h K = callDE call (f.ev a.t) (args.map (Opd.ev a.t)) d w l W a h K := by
  rw [drawE_h (fun _ _ => by intro x; cases x)]; rfl
theorem callDE_fn {f : Nat} {first cap args : List V} : callDE call (.fn f first cap) args d w l W a h K = call (.fn f) (first ++ args ++ cap) h fun v h' => Reads.hold W w h' ∧ laterD call l W ⟨put a.t d v, a.d⟩ h' K := rfl
theorem callDE_yield {y : Nat} {args : List V} : callDE call (.yield y) args d w l W a h K = call (.round y) args h fun v h' => Reads.hold W w h' ∧ laterD call l W ⟨put a.t d v, a.d⟩ h' K := rfl
def goDH (o : Option (V × H)) (d : Option Nat) (w : List Nat) (call : CP) (l : List IOp) (W : Reads) (a : A) (K : A → H → Prop) : Prop :=
  match o with | some (v, h) => Reads.hold W w h ∧ drawE call l W ⟨put a.t d v, a.d⟩ h K | none => False
theorem goDH_some : goDH (some (v, h)) d w call l W a K = (Reads.hold W w h ∧ drawE call l W ⟨put a.t d v, a.d⟩ h K) := rfl
/-- Any heavy one, told by the same one where nothing is open behind it. -/
theorem drawE_by {k : HK} (nd : ∀ f as, k ≠ .dfr f as) : drawE call (⟨d, none, .h k, i, w⟩ :: l) W a h K = opsE call [⟨d, none, .h k, i, []⟩] a h fun a' h' => Reads.hold W w h' ∧ drawE call l W a' h' K := by
  rw [drawE_h nd]
  cases k <;> first | (simp only [opsE, guardOk, wantedE, stepE, true_and, if_true]; done) | rfl | exact (nd _ _ rfl).elim
theorem drawE_store' (n : Nat) (x y : Opd) : drawE call (⟨d, none, .h (.store n x y), i, w⟩ :: l) W a h K = goDH (stEv n h (x.ev a.t) (y.ev a.t)) d w call l W a K := by
  rw [drawE_by (fun _ _ => by intro x; cases x), opsE_store']
  cases stEv n h (x.ev a.t) (y.ev a.t) <;> rfl
theorem drawE_copy' (es : Nat) (x y : Opd) : drawE call (⟨d, none, .h (.copy es x y), i, w⟩ :: l) W a h K = goDH (cpEv es h (x.ev a.t) (y.ev a.t)) d w call l W a K := by
  rw [drawE_by (fun _ _ => by intro x; cases x), opsE_copy']
  cases cpEv es h (x.ev a.t) (y.ev a.t) <;> rfl
theorem drawE_mapUpd' (kc : KC) (m k y : Opd) : drawE call (⟨d, none, .h (.mapUpd kc m k y), i, w⟩ :: l) W a h K = goDH (muEv kc h (m.ev a.t) (k.ev a.t) (y.ev a.t)) d w call l W a K := by
  rw [drawE_by (fun _ _ => by intro x; cases x), opsE_mapUpd']
  cases muEv kc h (m.ev a.t) (k.ev a.t) (y.ev a.t) <;> rfl
theorem drawE_mapEntry' (kc : KC) (z : V) (m k : Opd) : drawE call (⟨d, none, .h (.mapEntry kc z m k), i, w⟩ :: l) W a h K = goDH (meEv kc z h (m.ev a.t) (k.ev a.t)) d w call l W a K := by
  rw [drawE_by (fun _ _ => by intro x; cases x), opsE_mapEntry']
  cases meEv kc z h (m.ev a.t) (k.ev a.t) <;> rfl
theorem drawE_entryStore' (m s y : Opd) : drawE call (⟨d, none, .h (.entryStore m s y), i, w⟩ :: l) W a h K = goDH (esEv h (m.ev a.t) (s.ev a.t) (y.ev a.t)) d w call l W a K := by
  rw [drawE_by (fun _ _ => by intro x; cases x), opsE_entryStore']
  cases esEv h (m.ev a.t) (s.ev a.t) (y.ev a.t) <;> rfl
theorem drawE_app' (es bytes : Nat) (x y : Opd) : drawE call (⟨d, none, .h (.app es bytes x y), i, w⟩ :: l) W a h K = goAp (srcCells es h (y.ev a.t)) es bytes (x.ev a.t) d call [] a h (fun a' h' => Reads.hold W w h' ∧ laterD call l W a' h' K) := by
  rw [drawE_by (fun _ _ => by intro x; cases x), opsE_app']; rfl
/-- A guard. -/
def goDG (c : V) (b : Bool) (d : Option Nat) (k : Kind) (i : Nat) (w : List Nat) (l : List IOp) (call : CP) (W : Reads) (a : A) (h : H) (K : A → H → Prop) : Prop :=
  match c with
  | .bool c => if c = b then drawE call (⟨d, none, k, i, w⟩ :: l) W a h K else drawE call l W ⟨put a.t d (.tup []), a.d⟩ h K
  | .tup [] => drawE call l W ⟨put a.t d (.tup []), a.d⟩ h K
  | _ => False
theorem goDG_tt {k : Kind} : goDG (.bool true) true d k i w l call W a h K = drawE call (⟨d, none, k, i, w⟩ :: l) W a h K := rfl
theorem goDG_ff {k : Kind} : goDG (.bool false) false d k i w l call W a h K = drawE call (⟨d, none, k, i, w⟩ :: l) W a h K := rfl
theorem goDG_tf {k : Kind} : goDG (.bool true) false d k i w l call W a h K = drawE call l W ⟨put a.t d (.tup []), a.d⟩ h K := rfl
theorem goDG_ft {k : Kind} : goDG (.bool false) true d k i w l call W a h K = drawE call l W ⟨put a.t d (.tup []), a.d⟩ h K := rfl
theorem goDG_no {k : Kind} {b : Bool} : goDG (.tup []) b d k i w l call W a h K = drawE call l W ⟨put a.t d (.tup []), a.d⟩ h K := rfl
theorem drawE_g {k : Kind} {b : Bool} : drawE call (⟨d, some (j, b), k, i, w⟩ :: l) W a h K = goDG (a.t j) b d k i w l call W a h K := by
  cases hv : a.t j with
  | bool c =>
    cases c <;> cases b <;> simp [drawE, guardOk, wantedE, goDG, hv] <;> rfl
  | tup vs =>
    cases vs with
    | nil => simp [drawE, guardOk, wantedE, goDG, hv]
    | cons x xs => simp [drawE, guardOk, hv, goDG]
  | _ => simp [drawE, guardOk, hv, goDG]
theorem goDG_if {k : Kind} {p : Prop} [Decidable p] {b : Bool} (x : p → goDG (.bool true) b d k i w l call W a h K) (y : ¬ p → goDG (.bool false) b d k i w l call W a h K) : goDG (.bool (decide p)) b d k i w l call W a h K := by
  by_cases hp : p
  · rw [decide_eq_true hp]; exact x hp
  · rw [decide_eq_false hp]; exact y hp
variable {Q : Ex → A → H → Prop} {pg : Pg}
theorem E_drawW {l : List IOp} (hl : l.all (fun o => o.watch.isEmpty) = false) : E call (.draw l) a h Q = drawE call l [] a h (Q .nm) := rfl
attribute [go_sem] hold_nil hold_no hold_cons drawE_nil goDP_some drawE_p' goDR_some drawE_r' goDA_some drawE_a' drawE_call' callDE_fn callDE_yield goDH_some drawE_store' drawE_copy' drawE_mapUpd' drawE_mapEntry' drawE_entryStore' drawE_app' goDG_tt goDG_ff goDG_tf goDG_ft goDG_no drawE_g E_drawW List.isEmpty_cons Bool.and_false Bool.false_and List.mem_cons List.not_mem_nil
end Mir

/- The mirror, part 33: ranging over a function, step by step. -/
set_option linter.unusedSimpArgs false
set_option linter.unusedVariables false
namespace Mir
open Go
variable {call : CP} {pg : Pg} {a : A} {h h' : H} {Q : Ex → A → H → Prop} {R : V → H → Prop} {l : Nat} {t : Tm} {ps : List Nat} {as bd : IC} {st : LSt} {pd : Option Ex}
/-- Behind the ranging. -/
def rfC (o : Option AObj) (l : Nat) (a : A) (h : H) (Q : Ex → A → H → Prop) : Prop := match o with
  | some (.loop _ _ _ _ st pd) => st ≠ .busy ∧ Q (pd.getD .nm) a (hset h l none)
  | _ => False
def laterR (l : Nat) (a : A) (h : H) (Q : Ex → A → H → Prop) : Prop := rfC (h l) l a h Q
def goRF (f : V) (ps : List Nat) (as bd : IC) (call : CP) (a : A) (h : H) (Q : Ex → A → H → Prop) : Prop := match f with
  | .fn g first cap => ∀ l, h l = none → call (.fn g) (first ++ [.yield l] ++ cap) (hadd h l (.loop a.t ps as bd .ready none)) fun _ h' => laterR l a h' Q
  | _ => ∀ l, h l = none → False
theorem E_rangeFn (hm : Mono call) {f : Opd} : E call (.rangeFn f ps as bd) a h Q ↔ goRF (f.ev a.t) ps as bd call a h Q := by
  simp only [E, goRF]
  have key : ∀ h' l, (∃ t ps as bd st pd, h' l = some (.loop t ps as bd st pd) ∧ st ≠ .busy ∧ Q (pd.getD .nm) a (hset h' l none)) ↔ laterR l a h' Q := by
    intro h' l
    unfold laterR rfC
    constructor
    · rintro ⟨t, ps, as, bd, st, pd, e, q⟩; rw [e]; exact q
    · intro q
      split at q
      · rename_i t ps as bd st pd e; exact ⟨t, ps, as, bd, st, pd, e, q⟩
      · exact q.elim
  cases f.ev a.t <;> try exact Iff.rfl
  simp only [key]
theorem E_rangeFn' {f : Opd} : E (AC pg) (.rangeFn f ps as bd) a h Q = goRF (f.ev a.t) ps as bd (AC pg) a h Q := propext (E_rangeFn AC.mono)
theorem goRF_fn {g : Nat} {first cap : List V} : goRF (.fn g first cap) ps as bd call a h Q = ∀ l, h l = none → call (.fn g) (first ++ [.yield l] ++ cap) (hadd h l (.loop a.t ps as bd .ready none)) fun _ h' => laterR l a h' Q := rfl
theorem rfC_at : rfC (some (.loop t ps as bd st pd)) l a h Q = (st ≠ .busy ∧ Q (pd.getD .nm) a (hset h l none)) := rfl
/-! A round. -/
def rbC (o : Option AObj) (l : Nat) (R : V → H → Prop) (e : Ex) (h : H) : Prop := match o with
  | some (.loop t ps as bd _ _) => ∃ h3, Sub h3 (hadd h l (.loop t ps as bd (endSt e) (endPd e))) ∧ R (.bool (e == .nm)) h3
  | _ => False
def roundB (l : Nat) (R : V → H → Prop) : Ex → A → H → Prop := fun e a h => a.d = [] ∧ rbC (h l) l R e h
def raC (o : Option AObj) (call : CP) (bd : IC) (l : Nat) (R : V → H → Prop) (a : A) (h : H) : Prop := match o with
  | some (.loop t ps as bd' .ready pd) => E call bd a (hadd h l (.loop t ps as bd' .busy pd)) (roundB l R)
  | _ => False
def roundA (call : CP) (bd : IC) (l : Nat) (R : V → H → Prop) : Ex → A → H → Prop := fun e a h => e = .nm ∧ a.d = [] ∧ raC (h l) call bd l R a h
theorem AC.round {args : List V} (e : h l = some (.loop t ps as bd .ready pd)) (n : ps.length = args.length) (hE : E (AC pg) as ⟨params t ps args, []⟩ h (roundA (AC pg) bd l R)) : AC pg (.round l) args h R := by
  refine AC.fold ⟨t, ps, as, bd, pd, e, n, E_mono AC.mono (fun e a h1 q => ?_) hE⟩
  obtain ⟨q1, q2, q3⟩ := q
  refine ⟨q1, q2, ?_⟩
  unfold raC at q3
  split at q3
  · rename_i t1 ps1 as1 bd1 pd1 e1
    refine ⟨t1, ps1, as1, bd1, pd1, e1, E_mono AC.mono (fun e a2 h2 r => ?_) q3⟩
    obtain ⟨r1, r2⟩ := r
    refine ⟨r1, ?_⟩
    unfold rbC at r2
    split at r2
    · rename_i t2 ps2 as2 bd2 st2 pd2 e2
      obtain ⟨h3, s1, s2⟩ := r2
      exact ⟨t2, ps2, as2, bd2, st2, pd2, h3, e2, s1, s2⟩
    · exact r2.elim
  · exact q3.elim
theorem roundA_nm : roundA call bd l R .nm a h = (a.d = [] ∧ raC (h l) call bd l R a h) := by simp [roundA]
theorem raC_at {bd' : IC} : raC (some (.loop t ps as bd' .ready pd)) call bd l R a h = E call bd a (hadd h l (.loop t ps as bd' .busy pd)) (roundB l R) := rfl
theorem roundB_at {e : Ex} : roundB l R e a h = (a.d = [] ∧ rbC (h l) l R e h) := rfl
theorem rbC_at {e : Ex} : rbC (some (.loop t ps as bd st pd)) l R e h = ∃ h3, Sub h3 (hadd h l (.loop t ps as bd (endSt e) (endPd e))) ∧ R (.bool (e == .nm)) h3 := rfl
theorem prm_nil {vs : List V} : params t [] vs = t := rfl
theorem prm_cons {p : Nat} {v : V} {vs : List V} : params t (p :: ps) (v :: vs) = params (upd t p v) ps vs := rfl
theorem endSt_nm : endSt .nm = .ready := rfl
theorem endPd_nm : endPd .nm = none := rfl
theorem endSt_ret : endSt .ret = .done := rfl
theorem endPd_ret : endPd .ret = some .ret := rfl
theorem endSt_exit {i : Nat} : endSt (.exit i) = .done := rfl
theorem endPd_exit {i : Nat} : endPd (.exit i) = some (.exit i) := rfl
theorem beq_nm : (Ex.nm == Ex.nm) = true := rfl
theorem beq_ret : (Ex.ret == Ex.nm) = false := rfl
theorem beq_exit {i : Nat} : (Ex.exit i == Ex.nm) = false := rfl
attribute [go_sem] E_rangeFn' goRF_fn rfC_at roundA_nm raC_at roundB_at rbC_at prm_nil prm_cons endSt_nm endPd_nm endSt_ret endPd_ret endSt_exit endPd_exit beq_nm beq_ret beq_exit
end Mir

/- The mirror, part 34: slices of numbers or texts that are read. -/
set_option linter.unusedSimpArgs false
set_option linter.unusedVariables false
namespace Mir
open Go
variable {α : Type} {f : α → V} {h h' : H} {v : V} {l : List α}
/-- A slice of such members lies there, to be read. -/
def SlAt (f : α → V) (h : H) (v : V) (l : List α) : Prop := (l = [] ∧ (v = .nilsl ∨ ∃ b o, v = .sl b o 1 0)) ∨ ∃ b o n cs ro, v = .sl b o 1 n ∧ h b = some (.cells cs ro) ∧ o + n ≤ cs.length ∧ (cs.drop o).take n = l.map f
/-- Where a slice's row lies. -/
def rowOf : V → Option Nat
  | .sl b _ _ _ => some b
  | _ => none
theorem SlAt.nil : SlAt f h .nilsl [] := .inl ⟨rfl, .inl rfl⟩
theorem SlAt.len (I : SlAt f h v l) : llE v = some (.int .i64 (l.length : Nat)) := by
  rcases I with ⟨rfl, rfl | ⟨b, o, rfl⟩⟩ | ⟨b, o, n, cs, ro, rfl, h1, h2, h3⟩
  · rfl
  · rfl
  · have := congrArg List.length h3
    simp only [List.length_take, List.length_drop, List.length_map] at this
    rw [show l.length = n from by omega]; rfl
theorem SlAt.at (I : SlAt f h v l) {i : Nat} {x : α} (e : l[i]? = some x) : ∃ b o, rowOf v = some b ∧ ixE 1 v (.int .i64 i) = some (.ptr b o) ∧ ∃ cs ro, h b = some (.cells cs ro) ∧ cs[o]? = some (f x) := by
  rcases I with ⟨rfl, rfl | ⟨b, o, rfl⟩⟩ | ⟨b, o, n, cs, ro, rfl, h1, h2, h3⟩
  · simp at e
  · simp at e
  · have hl := congrArg List.length h3
    simp only [List.length_take, List.length_drop, List.length_map] at hl
    have hi : i < l.length := (List.getElem?_eq_some_iff.1 e).1
    refine ⟨b, o + i, rfl, ?_, cs, ro, h1, ?_⟩
    · rw [ix_sl (by omega)]; simp
    · have := congrArg (·[i]?) h3
      simp only [List.getElem?_map, e, Option.map_some] at this
      rw [List.getElem?_take_of_lt (by omega), List.getElem?_drop] at this
      exact this
theorem SlAt.keep (I : SlAt f h v l) (k : ∀ b o, rowOf v = some b → h b = some o → h' b = some o) : SlAt f h' v l := by
  rcases I with ⟨rfl, rfl | ⟨b, o, rfl⟩⟩ | ⟨b, o, n, cs, ro, rfl, h1, h2, h3⟩
  · exact .inl ⟨rfl, .inl rfl⟩
  · exact .inl ⟨rfl, .inr ⟨b, o, rfl⟩⟩
  · exact .inr ⟨b, o, n, cs, ro, rfl, k _ _ rfl h1, h2, h3⟩
theorem SlAt.lies (I : SlAt f h v l) (hl : l ≠ []) {b : Nat} (e : rowOf v = some b) : h b ≠ none := by
  rcases I with ⟨rfl, _⟩ | ⟨b', o, n, cs, ro, rfl, h1, h2, h3⟩
  · exact (hl rfl).elim
  · simp only [rowOf, Option.some.injEq] at e; subst e; rw [h1]; simp
/-- Both ways of a choice, by what they come to. -/
theorem goC.cut {call : CP} (hm : Mono call) {c : V} {x y : IC} {a : A} {h : H} {Q : Ex → A → H → Prop} (R : Ex → A → H → Prop) (hE : goC c call x y a h R) (hR : ∀ e a h, R e a h → Q e a h) : goC c call x y a h Q := by
  cases c with
  | bool b => exact ⟨fun e => E_mono hm hR (hE.1 e), fun e => E_mono hm hR (hE.2 e)⟩
  | _ => exact hE
/-! Interfaces compared. -/
section
variable {ρ : Opd → V} {x y : Opd} {ok : List Nat} {t t' : Nat} {k : IntKind} {a b : Int} {u : V}
theorem pk_eqIf {ng : Bool} : PK.ev ρ (.eqIf ok ng x y) = (evIf ok (ρ x) (ρ y)).map fun b => .bool (if ng then !b else b) := (rfl)
theorem ef_ni : evIf ok .nilif (.iface t u) = some false := by unfold evIf; rfl
theorem ef_in : evIf ok (.iface t u) .nilif = some false := by unfold evIf; rfl
theorem ef_ne (h : ¬ t = t') : evIf ok (.iface t (.int k a)) (.iface t' (.int k b)) = some false := by simp [evIf, h]
theorem ef_same (h : t ∈ ok) : evIf ok (.iface t (.int k a)) (.iface t (.int k b)) = some (decide (a = b)) := by simp [evIf, h]; rfl
end
/-! A byte as a text. -/
def bsE : V → Bool → Option V
  | .int .u8 n, c => some (if c then .str [UInt8.ofNat n.toNat] else .undef)
  | _, _ => none
theorem pk_byteStr {ρ : Opd → V} {x : Opd} {c : Bool} : PK.ev ρ (.byteStr c x) = bsE (ρ x) c := by
  simp only [PK.ev]; split <;> simp_all [bsE]
theorem bs_f {n : Int} : bsE (.int .u8 n) false = some .undef := rfl
theorem bs_t {n : Int} : bsE (.int .u8 n) true = some (.str [UInt8.ofNat n.toNat]) := rfl
theorem bs_nat {c : UInt8} : UInt8.ofNat (Int.toNat (c.toNat : Int)) = c := by simp
def ixbE : V → V → Option V
  | .str s, .int .u8 n => some (.int .i64 (idxB (UInt8.ofNat n.toNat) s))
  | _, _ => none
theorem pk_idxByte {ρ : Opd → V} {x c : Opd} : PK.ev ρ (.idxByte x c) = ixbE (ρ x) (ρ c) := by
  simp only [PK.ev]; split <;> simp_all [ixbE]
theorem ixb_str {s : List UInt8} {n : Int} : ixbE (.str s) (.int .u8 n) = some (.int .i64 (idxB (UInt8.ofNat n.toNat) s)) := rfl
def dsE : V → Option V
  | .sl b o _ n => if 0 < n then some (.ptr b o) else none
  | .nilsl => some .nilptr
  | _ => none
theorem pk_dataSl {ρ : Opd → V} {x : Opd} : PK.ev ρ (.dataSl x) = dsE (ρ x) := (rfl)
theorem ds_nil : dsE .nilsl = some .nilptr := rfl
theorem ds_sl {b o es n : Nat} (h : 0 < n) : dsE (.sl b o es n) = some (.ptr b o) := by simp [dsE, h]
/-- A text that shares a row's bytes. -/
theorem E_ustr {call : CP} {ρ : Opd → V} {h : H} {Q : V → H → Prop} {x y : Opd} {b o k : Nat} {cs : List V} {s : List UInt8} (ex : ρ x = .ptr b o) (ey : ρ y = .int .i64 (k : Nat)) (hk : 0 < k) (hkm : k < 9223372036854775808) (hb : h b = some (.cells cs false)) (hB : isB b) (hle : o + k ≤ cs.length)
    (hs : bytesOf ((cs.drop o).take k) = some s) (hq : Q (.str s) (hadd h b (.cells cs true))) : HK.E call ρ h Q (.ustr x y) := by
  simp only [HK.E, ex, ey, hb]
  refine ⟨by omega, by omega, ?_⟩
  rw [if_neg (by omega)]
  refine ⟨hB, by simpa using hle, ?_⟩
  simp only [Int.toNat_natCast, hs]
  exact hq
/-! A slice of an array. -/
def saC (o : Option AObj) (b off len es : Nat) (l hh : Option V) : Option V := match o with
  | some (.cells cs _) => if off + len * es ≤ cs.length then (bndE len l hh).map fun (i, j) => .sl b (off + i * es) es (j - i) else none
  | _ => none
def saE (len es : Nat) (v : V) (l hh : Option V) (h : H) : Option V := match v with | .ptr b off => saC (h b) b off len es l hh | _ => none
theorem rk_slArr {ρ : Opd → V} {h : H} {len es : Nat} {x : Opd} {l hh : Option Opd} : RK.ev ρ h (.slArr len es x l hh) = saE len es (ρ x) (l.map ρ) (hh.map ρ) h := by
  simp only [RK.ev, saE, saC, evBounds_eq]; cases ρ x <;> first | rfl | (rename_i b o; dsimp only; cases h b <;> first | rfl | (rename_i ob; cases ob <;> rfl))
theorem sa_ptr {h : H} {len es b off : Nat} {l hh : Option V} : saE len es (.ptr b off) l hh h = saC (h b) b off len es l hh := rfl
theorem saC_cells {cs : List V} {ro : Bool} {b off len es : Nat} {l hh : Option V} (c : off + len * es ≤ cs.length) : saC (some (.cells cs ro)) b off len es l hh = (bndE len l hh).map fun (i, j) => .sl b (off + i * es) es (j - i) := by simp [saC, c]
attribute [go_sem] rk_slArr sa_ptr saC_cells
attribute [go_sem] pk_idxByte ixb_str pk_dataSl ds_nil opsE_ustr
attribute [go_sem] pk_eqIf ef_ni ef_in ef_ne ef_same pk_byteStr bs_f bs_t bs_nat
theorem lens {α : Type} : (∀ a b : List α, (a ++ b).length = a.length + b.length) ∧ (∀ (x : α) (l : List α), (x :: l).length = l.length + 1) ∧ ([] : List α).length = 0 ∧ (∀ (l : List α) (n : Nat), (l.take n).length = min n l.length) ∧ ∀ (l : List α) (n : Nat), (l.drop n).length = l.length - n :=
  ⟨fun _ _ => List.length_append, fun _ _ => rfl, rfl, fun _ _ => List.length_take, fun _ _ => List.length_drop⟩
/-- The walk's rules that have conditions, as one. -/
theorem cds : type_of% (And.intro (And.intro (And.intro (And.intro (And.intro (And.intro (@wrap_u8_id) (@wrap_u32_id)) (@wrap_u64_id)) (And.intro (And.intro (@wrap_i64_id) (@wrap_i32_id)) (@tmod_nn))) (And.intro (And.intro (And.intro (@tdiv_nn) (@Int.toNat_natCast)) (@bnd_nh)) (And.intro (@bnd_ln) (@bnd_lh)))) (And.intro (And.intro (And.intro (And.intro (@is_str) (@ix_sl)) (@ir_ptr)) (And.intro (@ia_agg) (@tsC_cells))) (And.intro (And.intro (And.intro (@mk_ints) (@evb_sadd)) (@decide_t)) (And.intro (@decide_f) (@hadd_ne'))))) (And.intro (And.intro (And.intro (And.intro (And.intro (@hset_ne') (@srcC_cells)) (@ap_nil)) (And.intro (@ap_sl) (@apC_cells))) (And.intro (And.intro (And.intro (@goNSC_on) (@goNSC_end)) (@stC_one)) (And.intro (@stC_agg) (@fillC_one)))) (And.intro (And.intro (And.intro (And.intro (@fillC_agg) (@part_t)) (@box_one)) (And.intro (@box_agg) (@evb_quo))) (And.intro (And.intro (And.intro (@evb_rem) (@evb_shl)) (@evb_shr)) (And.intro (@saC_cells) (@ds_sl)))))) := And.intro (And.intro (And.intro (And.intro (And.intro (And.intro (@wrap_u8_id) (@wrap_u32_id)) (@wrap_u64_id)) (And.intro (And.intro (@wrap_i64_id) (@wrap_i32_id)) (@tmod_nn))) (And.intro (And.intro (And.intro (@tdiv_nn) (@Int.toNat_natCast)) (@bnd_nh)) (And.intro (@bnd_ln) (@bnd_lh)))) (And.intro (And.intro (And.intro (And.intro (@is_str) (@ix_sl)) (@ir_ptr)) (And.intro (@ia_agg) (@tsC_cells))) (And.intro (And.intro (And.intro (@mk_ints) (@evb_sadd)) (@decide_t)) (And.intro (@decide_f) (@hadd_ne'))))) (And.intro (And.intro (And.intro (And.intro (And.intro (@hset_ne') (@srcC_cells)) (@ap_nil)) (And.intro (@ap_sl) (@apC_cells))) (And.intro (And.intro (And.intro (@goNSC_on) (@goNSC_end)) (@stC_one)) (And.intro (@stC_agg) (@fillC_one)))) (And.intro (And.intro (And.intro (And.intro (@fillC_agg) (@part_t)) (@box_one)) (And.intro (@box_agg) (@evb_quo))) (And.intro (And.intro (And.intro (@evb_rem) (@evb_shl)) (@evb_shr)) (And.intro (@saC_cells) (@ds_sl)))))
/-! A strings.Builder's place; a text in another one. -/
theorem ak_allocW {zero : List V} {ρ : Opd → V} : AK.ev ρ (.allocW zero) = some (.cells zero false, fun b => .ptr b 0) := (rfl)
def wC (o : Option AObj) (b : Nat) : Option V := match o with
  | some (.cells _ _) => if isW b then some (.ptr b 0) else none
  | _ => none
def wE (v : V) (h : H) : Option V := match v with | .ptr b 0 => wC (h b) b | _ => none
theorem rk_uns {ρ : Opd → V} {h : H} {x : Opd} : RK.ev ρ h (.uns x) = wE (ρ x) h := by
  simp only [RK.ev]; generalize ρ x = v; cases v <;> try rfl
theorem w_ptr {b : Nat} {h : H} : wE (.ptr b 0) h = wC (h b) b := rfl
theorem wC_cells {b : Nat} {cs : List V} {ro : Bool} (hW : isW b) : wC (some (.cells cs ro)) b = some (.ptr b 0) := by simp [wC, hW]
def qsC (o : Option AObj) (s t : List UInt8) : Option V := match o with
  | some (.cells [.int .i64 m] _) => if 2 ≤ t.length ∧ (t.length : Int) ≤ m ∧ s.length < 4294967281 then some (.int .i64 (idxS t s)) else none
  | _ => none
def qsE (x y : V) (o : Option AObj) : Option V := match x, y with | .str s, .str t => qsC o s t | _, _ => none
theorem rk_idxSub {ρ : Opd → V} {h : H} {g : Nat} {x y : Opd} : RK.ev ρ h (.idxSub g x y) = qsE (ρ x) (ρ y) (h g) := by
  simp only [RK.ev, qsE, qsC]
  generalize ρ x = v; generalize ρ y = w; generalize h g = o
  cases v <;> cases w <;> first | rfl | (split <;> first | rfl | (split <;> simp_all))
theorem qs_str {s t : List UInt8} {o : Option AObj} : qsE (.str s) (.str t) o = qsC o s t := rfl
theorem qsC_cells {s t : List UInt8} {m : Int} {ro : Bool} (c : 2 ≤ t.length ∧ (t.length : Int) ≤ m ∧ s.length < 4294967281) : qsC (some (.cells [.int .i64 m] ro)) s t = some (.int .i64 (idxS t s)) := by simp [qsC, c]
attribute [go_sem] rd_at ak_allocW by_allocW rk_uns w_ptr rk_idxSub qs_str
end Mir
