/- The mirror, part 31: maps keyed by texts, as lists; frames. -/
import Derived.Test.YtijipnkdabdioaaMir30
set_option linter.unusedSimpArgs false
set_option linter.unusedVariables false
namespace Mir
open Go
abbrev Txt := List UInt8
/-- A map's content, by its keys in the order in which they came. -/
structure Rep (es : Ents) (clock : Nat) (l : List (Txt × V)) : Prop where
  eq : es.map (fun e => (e.1, e.2.1)) = l.map fun p => (V.str p.1, p.2)
  keys : (l.map (·.1)).Nodup
  born : (es.map fun e => e.2.2).Nodup
  old : ∀ e ∈ es, e.2.2 < clock
def getL {α : Type} (l : List (Txt × α)) (k : Txt) : Option α := (l.find? fun p => p.1 == k).map (·.2)
def putL {α : Type} (l : List (Txt × α)) (k : Txt) (v : α) : List (Txt × α) := if (getL l k).isSome then l.map (fun p => if p.1 == k then (k, v) else p) else l ++ [(k, v)]
def delL {α : Type} (l : List (Txt × α)) (k : Txt) : List (Txt × α) := l.filter fun p => !(p.1 == k)
section
variable {α β : Type} {l : List (Txt × α)} {k k' : Txt} {v : α}
theorem getL_nil : getL ([] : List (Txt × α)) k = none := rfl
theorem getL_cons {p : Txt × α} : getL (p :: l) k = if p.1 = k then some p.2 else getL l k := by
  by_cases e : p.1 = k
  · simp [getL, List.find?, e]
  · have : (p.1 == k) = false := beq_eq_false_iff_ne.2 e
    simp [getL, List.find?, e, this]
theorem getL_map {f : α → β} : getL (l.map fun p => (p.1, f p.2)) k = (getL l k).map f := by
  induction l with
  | nil => rfl
  | cons p l ih => rw [List.map_cons, getL_cons, getL_cons]; simp only; split <;> simp [ih]
theorem getL_mem (e : getL l k = some v) : (k, v) ∈ l := by
  induction l with
  | nil => cases e
  | cons p l ih =>
    rw [getL_cons] at e
    split at e
    · rename_i hp; cases e; subst hp; exact List.mem_cons_self
    · exact List.mem_cons_of_mem _ (ih e)
theorem getL_none : getL l k = none ↔ k ∉ l.map (·.1) := by
  induction l with
  | nil => simp [getL]
  | cons p l ih =>
    rw [getL_cons, List.map_cons, List.mem_cons, not_or]
    split
    · rename_i hp; simp [hp]
    · rename_i hp; rw [ih]; exact ⟨fun x => ⟨fun e => hp e.symm, x⟩, fun x => x.2⟩
theorem getL_of_mem (hn : (l.map (·.1)).Nodup) (e : (k, v) ∈ l) : getL l k = some v := by
  induction l with
  | nil => cases e
  | cons p l ih =>
    rw [List.map_cons, List.nodup_cons] at hn
    rw [getL_cons]
    rcases List.mem_cons.1 e with rfl | e
    · simp
    · have : p.1 ≠ k := fun x => hn.1 (by rw [x]; exact List.mem_map.2 ⟨_, e, rfl⟩)
      rw [if_neg this]; exact ih hn.2 e
theorem putL_new (e : getL l k = none) : putL l k v = l ++ [(k, v)] := by simp [putL, e]
theorem putL_old {u : α} (e : getL l k = some u) : putL l k v = l.map (fun p => if p.1 == k then (k, v) else p) := by simp [putL, e]
theorem getL_append {m : List (Txt × α)} : getL (l ++ m) k = (getL l k).or (getL m k) := by
  induction l with
  | nil => simp [getL_nil]
  | cons p l ih => rw [List.cons_append, getL_cons, getL_cons]; split <;> simp [ih]
theorem getL_repl : getL (l.map (fun p => if p.1 == k then (k, v) else p)) k' = if k' = k then (getL l k).map (fun _ => v) else getL l k' := by
  induction l with
  | nil => simp [getL_nil]
  | cons p l ih =>
    rw [List.map_cons, getL_cons, getL_cons, getL_cons, ih]
    by_cases hp : p.1 = k
    · simp only [hp, beq_self_eq_true, if_true]
      by_cases h' : k' = k
      · simp [h']
      · simp [h', Ne.symm h']
    · simp only [beq_eq_false_iff_ne.2 hp, Bool.false_eq_true, if_false, if_neg hp]
      by_cases h' : k' = k
      · subst h'; simp [hp]
      · simp [h']
theorem getL_put : getL (putL l k v) k' = if k' = k then some v else getL l k' := by
  cases e : getL l k with
  | none =>
    rw [putL_new e, getL_append, getL_cons, getL_nil]
    by_cases h : k' = k
    · subst h; simp [e]
    · simp [h, Ne.symm h]
  | some u => rw [putL_old e, getL_repl, e]; rfl
theorem getL_del : getL (delL l k) k' = if k' = k then none else getL l k' := by
  induction l with
  | nil => simp [delL, getL_nil]
  | cons p l ih =>
    by_cases hp : p.1 = k
    · have : delL (p :: l) k = delL l k := by simp [delL, hp]
      rw [this, ih, getL_cons]
      by_cases h' : k' = k
      · simp [h']
      · have : ¬ p.1 = k' := fun x => h' (x ▸ hp)
        simp [h', this]
    · have : delL (p :: l) k = p :: delL l k := by simp [delL, hp]
      rw [this, getL_cons, ih, getL_cons]
      by_cases h' : k' = k
      · subst h'; simp [hp]
      · simp [h']
theorem keys_put_old {u : α} (e : getL l k = some u) : (putL l k v).map (·.1) = l.map (·.1) := by
  rw [putL_old e, List.map_map]
  refine List.map_congr_left fun p hp => ?_
  simp only [Function.comp]
  split
  · rename_i h; exact (by simpa using h : p.1 = k).symm
  · rfl
theorem keys_put (hn : (l.map (·.1)).Nodup) : ((putL l k v).map (·.1)).Nodup := by
  cases e : getL l k with
  | some u => rw [keys_put_old e]; exact hn
  | none =>
    rw [putL_new e, List.map_append, List.nodup_append]
    refine ⟨hn, by simp, fun a ha b hb => ?_⟩
    simp only [List.map_cons, List.map_nil, List.mem_singleton] at hb
    subst hb
    exact fun x => getL_none.1 e (x ▸ ha)
theorem keys_del (hn : (l.map (·.1)).Nodup) : ((delL l k).map (·.1)).Nodup := hn.sublist (List.Sublist.map _ List.filter_sublist)
theorem putL_map {f : α → β} : putL (l.map fun p => (p.1, f p.2)) k (f v) = (putL l k v).map fun p => (p.1, f p.2) := by
  unfold putL
  rw [getL_map]
  cases e : getL l k with
  | none => simp
  | some u =>
    simp only [Option.map_some, Option.isSome_some, if_true, List.map_map]
    refine List.map_congr_left fun p hp => ?_
    simp only [Function.comp]
    split <;> rfl
theorem delL_map {f : α → β} : delL (l.map fun p => (p.1, f p.2)) k = (delL l k).map fun p => (p.1, f p.2) := by
  unfold delL
  rw [List.filter_map]; rfl
end
theorem keq {a b : Txt} : keyEq (.one .str) (.str a) (.str b) = some (decide (a = b)) := by simp only [keyEq, evq_str]
theorem Rep.find {es : Ents} {clock : Nat} {l : List (Txt × V)} (R : Rep es clock l) (k : Txt) : (∃ n, findK (.one .str) (.str k) es = some ((getL l k).map fun v => (v, n))) := by
  obtain ⟨eq, hk, hb, ho⟩ := R
  clear hk hb ho
  induction es generalizing l with
  | nil => cases l with
    | nil => exact ⟨0, rfl⟩
    | cons p l => cases eq
  | cons e es ih =>
    cases l with
    | nil => cases eq
    | cons p l =>
      rw [List.map_cons, List.map_cons, List.cons.injEq] at eq
      obtain ⟨e1, e2⟩ := eq
      have h1 : e.1 = .str p.1 := congrArg Prod.fst e1
      have h2 : e.2.1 = p.2 := congrArg Prod.snd e1
      simp only [findK, h1, keq, getL_cons]
      by_cases hp : k = p.1
      · rw [decide_eq_true hp, if_pos hp.symm]; exact ⟨e.2.2, by rw [h2]; rfl⟩
      · rw [decide_eq_false hp, if_neg (Ne.symm hp)]; exact ih e2
theorem setK_map {es : Ents} {l : List (Txt × V)} {k : Txt} {v : V} (eq : es.map (fun e => (e.1, e.2.1)) = l.map fun p => (V.str p.1, p.2)) (hn : (l.map (·.1)).Nodup) :
    (setK (.one .str) (.str k) v es).map (fun e => (e.1, e.2.1)) = (l.map (fun p => if p.1 == k then (k, v) else p)).map (fun p => (V.str p.1, p.2)) ∧ (setK (.one .str) (.str k) v es).map (fun e => e.2.2) = es.map fun e => e.2.2 := by
  induction es generalizing l with
  | nil => cases l with
    | nil => exact ⟨rfl, rfl⟩
    | cons p l => cases eq
  | cons e es ih =>
    cases l with
    | nil => cases eq
    | cons p l =>
      rw [List.map_cons, List.map_cons, List.cons.injEq] at eq
      rw [List.map_cons, List.nodup_cons] at hn
      obtain ⟨e1, e2⟩ := eq
      have h1 : e.1 = .str p.1 := congrArg Prod.fst e1
      have h2 : e.2.1 = p.2 := congrArg Prod.snd e1
      simp only [setK, h1, keq]
      by_cases hp : k = p.1
      · subst hp
        simp only [decide_true, if_true, List.map_cons, beq_self_eq_true]
        refine ⟨?_, trivial⟩
        rw [e2]
        congr 1
        rw [List.map_map]
        refine List.map_congr_left fun q hq => ?_
        have : q.1 ≠ p.1 := fun x => hn.1 (x ▸ List.mem_map.2 ⟨q, hq, rfl⟩)
        simp [this]
      · simp only [decide_eq_false hp, Option.some.injEq, Bool.false_eq_true, if_false, List.map_cons]
        obtain ⟨i1, i2⟩ := ih e2 hn.2
        rw [i1, i2]
        refine ⟨?_, rfl⟩
        have : (p.1 == k) = false := beq_eq_false_iff_ne.2 (Ne.symm hp)
        simp only [this, Bool.false_eq_true, if_false, h1, h2]
theorem Rep.set {es : Ents} {clock : Nat} {l : List (Txt × V)} (R : Rep es clock l) {k : Txt} {u v : V} (e : getL l k = some u) : Rep (setK (.one .str) (.str k) v es) clock (putL l k v) := by
  obtain ⟨i1, i2⟩ := setK_map (k := k) (v := v) R.eq R.keys
  refine ⟨by rw [putL_old e]; exact i1, keys_put R.keys, by rw [i2]; exact R.born, fun x hx => ?_⟩
  have : x.2.2 ∈ (setK (.one .str) (.str k) v es).map (fun e => e.2.2) := List.mem_map.2 ⟨x, hx, rfl⟩
  rw [i2] at this
  obtain ⟨y, hy, hxy⟩ := List.mem_map.1 this
  rw [← hxy]; exact R.old y hy
theorem Rep.add {es : Ents} {clock : Nat} {l : List (Txt × V)} (R : Rep es clock l) {k : Txt} {v : V} (e : getL l k = none) : Rep (es ++ [(.str k, v, clock)]) (clock + 1) (putL l k v) := by
  refine ⟨by rw [putL_new e, List.map_append, List.map_append, R.eq]; rfl, keys_put R.keys, ?_, fun x hx => ?_⟩
  · rw [List.map_append, List.nodup_append]
    refine ⟨R.born, by simp, fun a ha b hb => ?_⟩
    simp only [List.map_cons, List.map_nil, List.mem_singleton] at hb
    obtain ⟨y, hy, hxy⟩ := List.mem_map.1 ha
    have := R.old y hy
    omega
  · rcases List.mem_append.1 hx with hx | hx
    · have := R.old x hx; omega
    · simp only [List.mem_singleton] at hx; subst hx; simp
theorem delK_map {es : Ents} {l : List (Txt × V)} {k : Txt} (eq : es.map (fun e => (e.1, e.2.1)) = l.map fun p => (V.str p.1, p.2)) (hn : (l.map (·.1)).Nodup) :
    (delK (.one .str) (.str k) es).map (fun e => (e.1, e.2.1)) = (delL l k).map (fun p => (V.str p.1, p.2)) ∧ (delK (.one .str) (.str k) es).Sublist es := by
  induction es generalizing l with
  | nil => cases l with
    | nil => exact ⟨rfl, List.Sublist.refl _⟩
    | cons p l => cases eq
  | cons e es ih =>
    cases l with
    | nil => cases eq
    | cons p l =>
      rw [List.map_cons, List.map_cons, List.cons.injEq] at eq
      rw [List.map_cons, List.nodup_cons] at hn
      obtain ⟨e1, e2⟩ := eq
      have h1 : e.1 = .str p.1 := congrArg Prod.fst e1
      simp only [delK, h1, keq]
      by_cases hp : k = p.1
      · subst hp
        simp only [decide_true, if_true]
        refine ⟨?_, List.sublist_cons_self _ _⟩
        have : delL (p :: l) p.1 = l := by
          simp only [delL, List.filter_cons, beq_self_eq_true, Bool.not_true, Bool.false_eq_true, if_false]
          refine List.filter_eq_self.2 fun q hq => ?_
          have : q.1 ≠ p.1 := fun x => hn.1 (x ▸ List.mem_map.2 ⟨q, hq, rfl⟩)
          simp [this]
        rw [this]; exact e2
      · simp only [decide_eq_false hp, Option.some.injEq, Bool.false_eq_true, if_false, List.map_cons]
        obtain ⟨i1, i2⟩ := ih e2 hn.2
        have : delL (p :: l) k = p :: delL l k := by
          have : (p.1 == k) = false := beq_eq_false_iff_ne.2 (Ne.symm hp)
          simp [delL, this]
        rw [this, List.map_cons, i1]
        exact ⟨by rw [e1], i2.cons_cons _⟩
theorem Rep.del {es : Ents} {clock : Nat} {l : List (Txt × V)} (R : Rep es clock l) {k : Txt} : Rep (delK (.one .str) (.str k) es) clock (delL l k) := by
  obtain ⟨i1, i2⟩ := delK_map (k := k) R.eq R.keys
  exact ⟨i1, keys_del R.keys, R.born.sublist (i2.map _), fun x hx => R.old x (i2.subset hx)⟩
theorem Rep.nil {clock : Nat} : Rep [] clock [] := ⟨rfl, by simp, by simp, fun _ h => by cases h⟩
theorem Rep.len {es : Ents} {clock : Nat} {l : List (Txt × V)} (R : Rep es clock l) : es.length = l.length := by simpa using congrArg List.length R.eq
/-- What an update of the map leaves. -/
theorem Rep.put {es : Ents} {clock : Nat} {l : List (Txt × V)} (R : Rep es clock l) {k : Txt} {v : V} {b : Nat} {h : H} :
    ∃ es' clock', muF (findK (.one .str) (.str k) es) (.one .str) b es clock (.str k) v h = some (.undef, hadd h b (.map es' clock')) ∧ Rep es' clock' (putL l k v) := by
  obtain ⟨n, hn⟩ := R.find k
  cases e : getL l k with
  | none => rw [e] at hn; rw [hn]; exact ⟨_, _, rfl, R.add e⟩
  | some u => rw [e] at hn; rw [hn]; exact ⟨_, _, rfl, R.set e⟩
theorem Rep.look {es : Ents} {clock : Nat} {l : List (Txt × V)} (R : Rep es clock l) {k : Txt} {z : V} : luF (findK (.one .str) (.str k) es) z false = some ((getL l k).getD z) := by
  obtain ⟨n, hn⟩ := R.find k
  rw [hn]; cases getL l k <;> rfl
theorem Rep.dele {es : Ents} {clock : Nat} {l : List (Txt × V)} (R : Rep es clock l) {k : Txt} {b : Nat} {h : H} : dlF (findK (.one .str) (.str k) es) (.one .str) b es clock (.str k) h = some (.undef, hadd h b (.map (delK (.one .str) (.str k) es) clock)) := by
  obtain ⟨n, hn⟩ := R.find k
  rw [hn]; rfl
/-! ### Frames -/
/-- Whatever lies outside of F is kept; whatever F' has more than F was free. -/
structure Step (F F' : Nat → Prop) (h h' : H) : Prop where
  keep : ∀ b o, ¬ F b → h b = some o → h' b = some o
  new : ∀ b, F' b → F b ∨ h b = none
theorem hadd_self {h : H} {b : Nat} {o : AObj} (e : h b = some o) : hadd h b o = h := by
  funext i; simp only [hadd, hset]; split
  · rename_i x; subst x; exact e.symm
  · rfl
/-! ### A map's entry, taken first and written later -/
def meF (r : Option (Option (V × Nat))) (kc : KC) (zero : V) (b : Nat) (es : Ents) (clock : Nat) (k : V) (h : H) : Option (V × H) := match r with
      | some (some (v, n)) => some (.tup [v, .int .i64 n], hadd h b (.map (setK kc k v es) clock))
      | some none => some (.tup [zero, .int .i64 clock], hadd h b (.map (es ++ [(k, zero, clock)]) (clock + 1)))
      | none => none
def meC (ob : Option AObj) (kc : KC) (zero : V) (b : Nat) (k : V) (h : H) : Option (V × H) := match ob with
  | some (.map es clock) => if keyEq kc k k = some true then meF (findK kc k es) kc zero b es clock k h else none
  | _ => none
def meEv (kc : KC) (zero : V) (h : H) (m k : V) : Option (V × H) := match m with | .map b => meC (h b) kc zero b k h | _ => none
section
variable {call : CP} {a : A} {h : H} {K : A → H → Prop} {d : Option Nat} {i : Nat} {w : List Nat} {l : List IOp}
theorem opsE_mapEntry' (kc : KC) (z : V) (m k : Opd) : opsE call (⟨d, none, .h (.mapEntry kc z m k), i, w⟩ :: l) a h K = goH (meEv kc z h (m.ev a.t) (k.ev a.t)) d call l a K := by
  simp only [opsE, guardOk, wantedE, stepE, HK.E, meEv, meC, meF, true_and, if_true]
  cases m.ev a.t <;> try rfl
  rename_i b
  dsimp only
  cases h b with
  | none => rfl
  | some ob =>
    cases ob <;> try rfl
    rename_i es clock
    dsimp only
    by_cases c : keyEq kc (k.ev a.t) (k.ev a.t) = some true
    · rw [if_pos c]
      simp only [c, true_and]
      cases findK kc (k.ev a.t) es with
      | none => rfl
      | some r => cases r <;> rfl
    · rw [if_neg c]; simp only [c, false_and]; rfl
theorem me_map {kc : KC} {b : Nat} {k z : V} : meEv kc z h (.map b) k = meC (h b) kc z b k h := (rfl)
theorem meC_map {kc : KC} {b : Nat} {k z : V} {es : Ents} {clock : Nat} (hk : keyEq kc k k = some true) : meC (some (.map es clock)) kc z b k h = meF (findK kc k es) kc z b es clock k h := by simp [meC, hk]
def esC (ob : Option AObj) (b : Nat) (n : Int) (v : V) (h : H) : Option (V × H) := match ob with
  | some (.map es clock) => if 0 ≤ n ∧ (findBorn n.toNat es).isSome = true then some (.undef, hadd h b (.map (setBorn n.toNat v es) clock)) else none
  | _ => none
def esEv (h : H) (m s v : V) : Option (V × H) := match m, s with | .map b, .int .i64 n => esC (h b) b n v h | _, _ => none
theorem opsE_entryStore' (m s v : Opd) : opsE call (⟨d, none, .h (.entryStore m s v), i, w⟩ :: l) a h K = goH (esEv h (m.ev a.t) (s.ev a.t) (v.ev a.t)) d call l a K := by
  simp only [opsE, guardOk, wantedE, stepE, HK.E, esEv, esC, true_and, if_true]
  generalize m.ev a.t = mv
  generalize s.ev a.t = sv
  cases mv <;> try rfl
  rename_i b
  cases sv <;> try rfl
  rename_i k n
  cases k <;> try rfl
  dsimp only
  generalize h b = o
  rcases o with _ | ob
  · rfl
  · cases ob <;> try rfl
    rename_i es clock
    dsimp only
    by_cases c : 0 ≤ n ∧ (findBorn n.toNat es).isSome = true
    · rw [if_pos c]; simp only [c, true_and]; rfl
    · rw [if_neg c]; simp only [goH]
      apply propext; constructor
      · intro q; exact c ⟨q.1, q.2.1⟩
      · exact False.elim
theorem es_map {b : Nat} {n : Int} {v : V} : esEv h (.map b) (.int .i64 n) v = esC (h b) b n v h := (rfl)
theorem esC_map {es : Ents} {clock b n : Nat} {v : V} (hf : (findBorn n es).isSome = true) : esC (some (.map es clock)) b (n : Int) v h = some (.undef, hadd h b (.map (setBorn n v es) clock)) := by
  simp [esC, hf]
end
theorem findK_set {es : Ents} {k : Txt} {v : V} {u : V × Nat} (e : findK (.one .str) (.str k) es = some (some u)) : findK (.one .str) (.str k) (setK (.one .str) (.str k) v es) = some (some (v, u.2)) := by
  induction es with
  | nil => cases e
  | cons x es ih =>
    simp only [findK] at e
    simp only [setK]
    cases hk : keyEq (.one .str) (.str k) x.1 with
    | none => rw [hk] at e; cases e
    | some b =>
      cases b
      · rw [hk] at e; simp only [Option.some.injEq, Bool.false_eq_true, if_false, findK, hk]; exact ih e
      · rw [hk] at e
        simp only [if_true, findK, keq, decide_true]
        simp only [Option.some.injEq] at e; rw [← e]
theorem findK_new {es : Ents} {k : Txt} {v : V} {n : Nat} (e : findK (.one .str) (.str k) es = some none) : findK (.one .str) (.str k) (es ++ [(.str k, v, n)]) = some (some (v, n)) := by
  induction es with
  | nil => simp [findK, keq]
  | cons x es ih =>
    simp only [findK, List.cons_append] at e ⊢
    cases hk : keyEq (.one .str) (.str k) x.1 with
    | none => rw [hk] at e; cases e
    | some b =>
      cases b
      · rw [hk] at e; exact ih e
      · rw [hk] at e; cases e
theorem setBorn_eq {es : Ents} {clock : Nat} {l : List (Txt × V)} (R : Rep es clock l) {k : Txt} {v : V} {u : V × Nat} (e : findK (.one .str) (.str k) es = some (some u)) : setBorn u.2 v es = setK (.one .str) (.str k) v es ∧ (findBorn u.2 es).isSome = true := by
  obtain ⟨eq, hk, hb, ho⟩ := R
  clear hk ho
  induction es generalizing l with
  | nil => cases e
  | cons x es ih =>
    cases l with
    | nil => cases eq
    | cons p l =>
      rw [List.map_cons, List.map_cons, List.cons.injEq] at eq
      rw [List.map_cons, List.nodup_cons] at hb
      obtain ⟨e1, e2⟩ := eq
      have h1 : x.1 = .str p.1 := congrArg Prod.fst e1
      simp only [findK, h1, keq] at e
      simp only [setBorn, setK, h1, keq, findBorn]
      by_cases hp : k = p.1
      · subst hp
        simp only [decide_true, Option.some.injEq] at e
        subst e
        simp
      · simp only [decide_eq_false hp] at e
        have hm : u.2 ∈ es.map fun e => e.2.2 := by
          clear ih hb e2 e1
          induction es with
          | nil => cases e
          | cons y es ih2 =>
            simp only [findK] at e
            split at e
            · simp only [Option.some.injEq] at e; subst e; simp
            · exact List.mem_cons_of_mem _ (ih2 e)
            · cases e
        have hne : x.2.2 ≠ u.2 := fun x => hb.1 (x ▸ hm)
        simp only [if_neg hne, decide_eq_false hp, Option.some.injEq, Bool.false_eq_true, if_false]
        obtain ⟨i1, i2⟩ := ih e e2 hb.2
        rw [i1]; exact ⟨rfl, i2⟩
/-- An entry is taken: what it is written with comes later. -/
theorem Rep.enter {es : Ents} {clock : Nat} {l : List (Txt × V)} (R : Rep es clock l) {k : Txt} {z : V} {b : Nat} {h : H} :
    ∃ es' clock' n v', meF (findK (.one .str) (.str k) es) (.one .str) z b es clock (.str k) h = some (.tup [v', .int .i64 ((n : Nat) : Int)], hadd h b (.map es' clock')) ∧ (findBorn n es').isSome = true ∧ ∀ v, Rep (setBorn n v es') clock' (putL l k v) := by
  obtain ⟨n, hn⟩ := R.find k
  cases e : getL l k with
  | none =>
    rw [e] at hn
    have R' := R.add (v := z) e
    have hf := findK_new (v := z) (n := clock) hn
    refine ⟨_, _, clock, z, by rw [hn]; rfl, (setBorn_eq (v := z) R' hf).2, fun v => ?_⟩
    have := (setBorn_eq (v := v) R' hf).1
    simp only at this
    rw [this]
    have hg : getL (putL l k z) k = some z := by rw [getL_put, if_pos rfl]
    have R2 := R'.set (v := v) hg
    have : putL (putL l k z) k v = putL l k v := by
      rw [putL_old hg, putL_new e, putL_new e, List.map_append]
      congr 1
      · refine (List.map_congr_left fun p hp => ?_).trans (List.map_id _)
        have : p.1 ≠ k := fun x => getL_none.1 e (x ▸ List.mem_map.2 ⟨p, hp, rfl⟩)
        simp [this]
      · simp
    rw [this] at R2; exact R2
  | some u =>
    rw [e] at hn
    have R' := R.set (v := u) e
    have hf := findK_set (v := u) hn
    refine ⟨_, _, n, u, by rw [hn]; rfl, (setBorn_eq (v := u) R' hf).2, fun v => ?_⟩
    have := (setBorn_eq (v := v) R' hf).1
    simp only at this
    rw [this]
    have hg : getL (putL l k u) k = some u := by rw [getL_put, if_pos rfl]
    have R2 := R'.set (v := v) hg
    have : putL (putL l k u) k v = putL l k v := by
      rw [putL_old hg, putL_old e, putL_old e, List.map_map]
      refine List.map_congr_left fun p hp => ?_
      simp only [Function.comp]
      by_cases hp : p.1 = k <;> simp [hp]
    rw [this] at R2; exact R2
attribute [go_sem] opsE_mapEntry' me_map meC_map opsE_entryStore' es_map
/-! Steps. -/
theorem Step.refl {F : Nat → Prop} {h : H} : Step F F h h := ⟨fun _ _ _ e => e, fun _ e => .inl e⟩
theorem Step.put {F F' : Nat → Prop} {h h' : H} (s : Step F F' h h') {b : Nat} {o : AObj} (hb : F b ∨ h b = none) : Step F F' h (hadd h' b o) := by
  refine ⟨fun c u nc hc => ?_, s.new⟩
  have : c ≠ b := fun e => by
    subst e
    rcases hb with hb | hb
    · exact nc hb
    · rw [hb] at hc; cases hc
  rw [hadd_ne' this]; exact s.keep c u nc hc
theorem Step.trans {F F' F'' : Nat → Prop} {h h' h'' : H} (s : Step F F' h h') (s' : Step F' F'' h' h'') : Step F F'' h h'' := by
  refine ⟨fun b o nb hb => ?_, fun b hb => ?_⟩
  · have nb' : ¬ F' b := fun x => by
      rcases s.new b x with e | e
      · exact nb e
      · rw [e] at hb; cases hb
    exact s'.keep b o nb' (s.keep b o nb hb)
  · rcases s'.new b hb with e | e
    · exact s.new b e
    · by_cases nb : F b
      · exact .inl nb
      · refine .inr ?_
        cases hc : h b with
        | none => rfl
        | some o => rw [s.keep b o nb hc] at e; cases e
end Mir
