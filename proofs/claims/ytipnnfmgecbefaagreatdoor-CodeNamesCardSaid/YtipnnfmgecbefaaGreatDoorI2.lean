import Derived.Test.YtipnnfmgecbefaaGreatDoorI1
/- The interpreter, 2: what its values, its memory have to do with the mirror's. -/
set_option linter.unusedSimpArgs false
set_option linter.unusedVariables false
namespace Mir
open Go

namespace Tr
variable {α : Type}
theorem half {i k : Nat} (h0 : i ≠ 0) (h : i < k + 1) : i / 2 < k := by omega
theorem half' {i k : Nat} (h0 : i ≠ 0) (h : i < k + 1) : i / 2 - 1 < k := by omega
theorem get_set : ∀ (k : Nat) (t : Tr α) (i : Nat) (x : α) (j : Nat), i < k → (set k t i x).get j = if j = i then some x else t.get j
  | 0, _, _, _, _, h => by omega
  | k + 1, .e, i, x, j, h => by
    by_cases h0 : i = 0
    · subst h0; simp only [set_e, set_n, Nat.beq_refl, cond_true, get_e, get_n]
      by_cases j0 : j = 0
      · subst j0; simp
      · have : Nat.beq j 0 = false := by cases e : Nat.beq j 0; rfl; exact absurd (Nat.eq_of_beq_eq_true e) j0
        rw [this, if_neg j0]; cases Nat.beq (j % 2) 1 <;> rfl
    · have b0 : Nat.beq i 0 = false := by cases e : Nat.beq i 0; rfl; exact absurd (Nat.eq_of_beq_eq_true e) h0
      simp only [set_e, set_n, b0, cond_false]
      cases b1 : Nat.beq (i % 2) 1
      · simp only [cond_false, get_e, get_n]
        have o1 : ¬ i % 2 = 1 := fun e => by rw [e] at b1; cases b1
        cases c0 : Nat.beq j 0
        · have j0 : j ≠ 0 := fun e => by rw [e] at c0; cases c0
          simp only [cond_false]
          cases c1 : Nat.beq (j % 2) 1
          · have o2 : ¬ j % 2 = 1 := fun e => by rw [e] at c1; cases c1
            simp only [cond_false]
            rw [get_set k .e _ x _ (half' h0 h)]
            simp only [get_e, get_n]
            by_cases e : j = i
            · rw [if_pos e, if_pos (by rw [e])]
            · rw [if_neg e, if_neg (by omega)]
          · have o2 : j % 2 = 1 := Nat.eq_of_beq_eq_true c1
            simp only [cond_true]
            rw [if_neg (by omega)]
        · have := Nat.eq_of_beq_eq_true c0; subst this
          simp only [cond_true]; rw [if_neg (Ne.symm h0)]
      · simp only [cond_true, get_e, get_n]
        have o1 : i % 2 = 1 := Nat.eq_of_beq_eq_true b1
        cases c0 : Nat.beq j 0
        · simp only [cond_false]
          cases c1 : Nat.beq (j % 2) 1
          · have o2 : ¬ j % 2 = 1 := fun e => by rw [e] at c1; cases c1
            simp only [cond_false]
            rw [if_neg (by omega)]
          · have o2 : j % 2 = 1 := Nat.eq_of_beq_eq_true c1
            simp only [cond_true]
            rw [get_set k .e _ x _ (half h0 h)]
            simp only [get_e, get_n]
            by_cases e : j = i
            · rw [if_pos e, if_pos (by rw [e])]
            · rw [if_neg e, if_neg (by omega)]
        · have := Nat.eq_of_beq_eq_true c0; subst this
          simp only [cond_true]; rw [if_neg (Ne.symm h0)]
  | k + 1, .n v l r, i, x, j, h => by
    by_cases h0 : i = 0
    · subst h0; simp only [set_e, set_n, Nat.beq_refl, cond_true, get_e, get_n]
      by_cases j0 : j = 0
      · subst j0; simp
      · have : Nat.beq j 0 = false := by cases e : Nat.beq j 0; rfl; exact absurd (Nat.eq_of_beq_eq_true e) j0
        rw [this, if_neg j0]; rfl
    · have b0 : Nat.beq i 0 = false := by cases e : Nat.beq i 0; rfl; exact absurd (Nat.eq_of_beq_eq_true e) h0
      simp only [set_e, set_n, b0, cond_false]
      cases b1 : Nat.beq (i % 2) 1
      · simp only [cond_false, get_e, get_n]
        have o1 : ¬ i % 2 = 1 := fun e => by rw [e] at b1; cases b1
        cases c0 : Nat.beq j 0
        · have j0 : j ≠ 0 := fun e => by rw [e] at c0; cases c0
          simp only [cond_false]
          cases c1 : Nat.beq (j % 2) 1
          · have o2 : ¬ j % 2 = 1 := fun e => by rw [e] at c1; cases c1
            simp only [cond_false]
            rw [get_set k r _ x _ (half' h0 h)]
            by_cases e : j = i
            · rw [if_pos e, if_pos (by rw [e])]
            · rw [if_neg e, if_neg (by omega)]
          · have o2 : j % 2 = 1 := Nat.eq_of_beq_eq_true c1
            simp only [cond_true]
            rw [if_neg (by omega)]
        · have := Nat.eq_of_beq_eq_true c0; subst this
          simp only [cond_true]; rw [if_neg (Ne.symm h0)]
      · simp only [cond_true, get_e, get_n]
        have o1 : i % 2 = 1 := Nat.eq_of_beq_eq_true b1
        cases c0 : Nat.beq j 0
        · simp only [cond_false]
          cases c1 : Nat.beq (j % 2) 1
          · have o2 : ¬ j % 2 = 1 := fun e => by rw [e] at c1; cases c1
            simp only [cond_false]
            rw [if_neg (by omega)]
          · have o2 : j % 2 = 1 := Nat.eq_of_beq_eq_true c1
            simp only [cond_true]
            rw [get_set k l _ x _ (half h0 h)]
            by_cases e : j = i
            · rw [if_pos e, if_pos (by rw [e])]
            · rw [if_neg e, if_neg (by omega)]
        · have := Nat.eq_of_beq_eq_true c0; subst this
          simp only [cond_true]; rw [if_neg (Ne.symm h0)]
theorem get_put (t : Tr α) (i : Nat) (x : α) (j : Nat) : (t.put i x).get j = if j = i then some x else t.get j := get_set _ _ _ _ _ (Nat.lt_succ_self _)
theorem get_over : ∀ (a b : Tr α) (i : Nat), (over a b).get i = match a.get i with | some x => some x | none => b.get i
  | .e, b, i => rfl
  | .n v l r, .e, i => by simp only [over, get_e]; cases (Tr.n v l r).get i <;> rfl
  | .n v l r, .n v' l' r', i => by
    simp only [over, get_n]
    cases Nat.beq i 0
    · simp only [cond_false]
      cases Nat.beq (i % 2) 1
      · exact get_over r r' _
      · exact get_over l l' _
    · simp only [cond_true]; cases v <;> rfl
theorem mem_keys : ∀ (t : Tr α) (g : Nat → Nat) (i : Nat), t.get i ≠ none → g i ∈ t.keys g
  | .e, _, _, h => absurd rfl h
  | .n v l r, g, i, h => by
    simp only [get_n] at h
    simp only [keys, List.mem_append]
    cases b0 : Nat.beq i 0
    · rw [b0] at h
      have h0 : i ≠ 0 := fun e => by rw [e] at b0; cases b0
      simp only [cond_false] at h
      cases b1 : Nat.beq (i % 2) 1
      · rw [b1] at h
        have o1 : ¬ i % 2 = 1 := fun e => by rw [e] at b1; cases b1
        have := mem_keys r (fun i => g (2 * i + 2)) _ h
        simp only [show 2 * (i / 2 - 1) + 2 = i by omega] at this
        exact .inr (.inr this)
      · rw [b1] at h
        have o1 : i % 2 = 1 := Nat.eq_of_beq_eq_true b1
        have := mem_keys l (fun i => g (2 * i + 1)) _ h
        simp only [show 2 * (i / 2) + 1 = i by omega] at this
        exact .inr (.inl this)
    · rw [b0] at h
      have := Nat.eq_of_beq_eq_true b0; subst this
      simp only [cond_true] at h
      cases v with
      | none => exact absurd rfl h
      | some v => exact .inl (by simp)
/-- Of all that stands there. -/
def All (p : Nat → α → Prop) : Tr α → (Nat → Nat) → Prop
  | .e, _ => True
  | .n v l r, g => (match v with | some x => p (g 0) x | none => True) ∧ All p l (fun i => g (2 * i + 1)) ∧ All p r (fun i => g (2 * i + 2))
theorem all_get' {p : Nat → α → Prop} : ∀ (t : Tr α) (g : Nat → Nat), All p t g → ∀ i x, t.get i = some x → p (g i) x
  | .e, _, _, _, _, h => by cases h
  | .n v l r, g, ha, i, x, h => by
    simp only [get_n] at h
    obtain ⟨h1, h2, h3⟩ := ha
    cases b0 : Nat.beq i 0
    · rw [b0] at h
      have h0 : i ≠ 0 := fun e => by rw [e] at b0; cases b0
      simp only [cond_false] at h
      cases b1 : Nat.beq (i % 2) 1
      · rw [b1] at h
        have o1 : ¬ i % 2 = 1 := fun e => by rw [e] at b1; cases b1
        have := all_get' r _ h3 _ x h
        simp only [show 2 * (i / 2 - 1) + 2 = i by omega] at this
        exact this
      · rw [b1] at h
        have o1 : i % 2 = 1 := Nat.eq_of_beq_eq_true b1
        have := all_get' l _ h2 _ x h
        simp only [show 2 * (i / 2) + 1 = i by omega] at this
        exact this
    · rw [b0] at h
      have := Nat.eq_of_beq_eq_true b0; subst this
      simp only [cond_true] at h
      rw [h] at h1; exact h1
theorem all_get {p : Nat → α → Prop} (t : Tr α) (g : Nat → Nat) (h : All p t g) (i : Nat) (x : α) (e : t.get i = some x) : p (g i) x := all_get' t g h i x e
end Tr
theorem tv_put {bt : Tm} {t : Tr V} {d : Nat} {v : V} (i : Nat) : tv bt (t.put d v) i = upd (tv bt t) d v i := by
  simp only [tv, Tr.get_put, upd]; by_cases e : i = d <;> simp [e]
theorem tv_putT {bt : Tm} {t : Tr V} {d : Option Nat} {v : V} (i : Nat) : tv bt (putT t d v) i = put (tv bt t) d v i := by
  cases d with
  | none => rfl
  | some d => exact tv_put i
theorem hv_put {bh : H} {h : Tr (Option AObj)} {b : Nat} {o : Option AObj} : hv bh (h.put b o) = hset (hv bh h) b o := by
  funext i; simp only [hv, Tr.get_put, hset]; by_cases e : i = b <;> simp [e]
theorem hv_e {bh : H} : hv bh .e = bh := rfl
theorem tv_e {bt : Tm} : tv bt .e = bt := rfl
theorem tv_over {bt : Tm} {s t : Tr V} : tv bt (t.over s) = tv (tv bt s) t := by
  funext i; simp only [tv, Tr.get_over]; cases t.get i <;> rfl
theorem hv_over {bh : H} {s t : Tr (Option AObj)} : hv bh (t.over s) = hv (hv bh s) t := by
  funext i; simp only [hv, Tr.get_over]; cases t.get i <;> rfl

/-- Two lists, thing by thing. -/
def L2 {α β : Type} (R : α → β → Prop) (as : List α) (bs : List β) : Prop := as.length = bs.length ∧ ∀ (i : Nat) a b, as[i]? = some a → bs[i]? = some b → R a b
namespace L2
variable {α β γ δ : Type} {R T : α → β → Prop} {as : List α} {bs : List β}
theorem nil : L2 R [] [] := ⟨rfl, fun i a b h => by simp at h⟩
theorem cons {a : α} {b : β} (h : R a b) (t : L2 R as bs) : L2 R (a :: as) (b :: bs) := by
  refine ⟨by simp [t.1], fun i x y hx hy => ?_⟩
  cases i with
  | zero => simp only [List.getElem?_cons_zero, Option.some.injEq] at hx hy; subst hx; subst hy; exact h
  | succ i => simp only [List.getElem?_cons_succ] at hx hy; exact t.2 i x y hx hy
theorem nil_inv (h : L2 R [] bs) : bs = [] := by have := h.1; simpa using this.symm
theorem cons_inv {a : α} (h : L2 R (a :: as) bs) : ∃ b bs', bs = b :: bs' ∧ R a b ∧ L2 R as bs' := by
  cases bs with
  | nil => have := h.1; simp at this
  | cons b bs => exact ⟨b, bs, rfl, h.2 0 a b rfl rfl, by have := h.1; simpa using this, fun i x y hx hy => h.2 (i + 1) x y (by simpa using hx) (by simpa using hy)⟩
theorem imp (h : L2 R as bs) (f : ∀ a b, R a b → T a b) : L2 T as bs := ⟨h.1, fun i a b ha hb => f _ _ (h.2 i a b ha hb)⟩
theorem append {cs : List α} {ds : List β} (h : L2 R as bs) (h' : L2 R cs ds) : L2 R (as ++ cs) (bs ++ ds) := by
  refine ⟨by simp [h.1, h'.1], fun i x y hx hy => ?_⟩
  rcases Nat.lt_or_ge i as.length with c | c
  · rw [List.getElem?_append_left c] at hx; rw [List.getElem?_append_left (by rw [← h.1]; exact c)] at hy; exact h.2 i x y hx hy
  · rw [List.getElem?_append_right c] at hx; rw [List.getElem?_append_right (by rw [← h.1]; exact c), ← h.1] at hy; exact h'.2 _ x y hx hy
theorem take (h : L2 R as bs) (n : Nat) : L2 R (as.take n) (bs.take n) := by
  refine ⟨by simp [h.1], fun i x y hx hy => ?_⟩
  rw [List.getElem?_take] at hx hy
  split at hx
  · rename_i c; rw [if_pos c] at hy; exact h.2 i x y hx hy
  · cases hx
theorem drop (h : L2 R as bs) (n : Nat) : L2 R (as.drop n) (bs.drop n) := by
  refine ⟨by simp [h.1], fun i x y hx hy => ?_⟩
  rw [List.getElem?_drop] at hx hy
  exact h.2 _ x y hx hy
theorem get (h : L2 R as bs) {i : Nat} {a : α} (ha : as[i]? = some a) : ∃ b, bs[i]? = some b ∧ R a b := by
  obtain ⟨hi, _⟩ := List.getElem?_eq_some_iff.1 ha
  have : i < bs.length := by rw [← h.1]; exact hi
  exact ⟨_, List.getElem?_eq_getElem this, h.2 i _ _ ha (List.getElem?_eq_getElem this)⟩
theorem map {f : γ → α} {g : γ → β} (l : List γ) (h : ∀ x ∈ l, R (f x) (g x)) : L2 R (l.map f) (l.map g) := by
  refine ⟨by simp, fun i x y hx hy => ?_⟩
  rw [List.getElem?_map] at hx hy
  cases e : l[i]? with
  | none => rw [e] at hx; cases hx
  | some z => rw [e] at hx hy; cases hx; cases hy; exact h z (List.mem_of_getElem? e)
theorem refl' {R : α → α → Prop} {l : List α} (h : ∀ x ∈ l, R x x) : L2 R l l := by
  have := L2.map (f := id) (g := id) l h
  simpa using this
end L2

abbrev Nm := Nat → Option Nat
def Nm.le (f f' : Nm) : Prop := ∀ i b, f i = some b → f' i = some b
theorem Nm.le.refl (f : Nm) : f.le f := fun _ _ h => h
theorem Nm.le.trans {f f' f'' : Nm} (h : f.le f') (h' : f'.le f'') : f.le f'' := fun i b e => h' i b (h i b e)

/-- The interpreter's value tells (perhaps less than) the mirror's. -/
inductive VI (f : Nm) : V → V → Prop where
  | und (v : V) : VI f .undef v
  | bool (b : Bool) : VI f (.bool b) (.bool b)
  | int (k : IntKind) (n : Int) : VI f (.int k n) (.int k n)
  | str (s : List UInt8) : VI f (.str s) (.str s)
  | ptr {b b' o : Nat} : f b = some b' → VI f (.ptr b o) (.ptr b' o)
  | nilptr : VI f .nilptr .nilptr
  | sl {b b' o e n : Nat} : f b = some b' → VI f (.sl b o e n) (.sl b' o e n)
  | nilsl : VI f .nilsl .nilsl
  | map {b b' : Nat} : f b = some b' → VI f (.map b) (.map b')
  | nilmap : VI f .nilmap .nilmap
  | fn {k : Nat} {as bs cs ds : List V} : as.length = bs.length → (∀ (i : Nat) a b, as[i]? = some a → bs[i]? = some b → VI f a b) → cs.length = ds.length → (∀ (i : Nat) a b, cs[i]? = some a → ds[i]? = some b → VI f a b) → VI f (.fn k as cs) (.fn k bs ds)
  | yield {b b' : Nat} : f b = some b' → VI f (.yield b) (.yield b')
  | nilfn : VI f .nilfn .nilfn
  | iface {t : Nat} {v w : V} : VI f v w → VI f (.iface t v) (.iface t w)
  | nilif : VI f .nilif .nilif
  | agg {as bs : List V} : as.length = bs.length → (∀ (i : Nat) a b, as[i]? = some a → bs[i]? = some b → VI f a b) → VI f (.agg as) (.agg bs)
  | tup {as bs : List V} : as.length = bs.length → (∀ (i : Nat) a b, as[i]? = some a → bs[i]? = some b → VI f a b) → VI f (.tup as) (.tup bs)
abbrev VIs (f : Nm) := L2 (VI f)

theorem VI.inv {f : Nm} {v a : V} (h : VI f v a) : match v with
    | .undef => True
    | .bool b => a = .bool b
    | .int k n => a = .int k n
    | .str s => a = .str s
    | .ptr b o => ∃ b', f b = some b' ∧ a = .ptr b' o
    | .nilptr => a = .nilptr
    | .sl b o e n => ∃ b', f b = some b' ∧ a = .sl b' o e n
    | .nilsl => a = .nilsl
    | .map b => ∃ b', f b = some b' ∧ a = .map b'
    | .nilmap => a = .nilmap
    | .fn k as cs => ∃ bs ds, a = .fn k bs ds ∧ VIs f as bs ∧ VIs f cs ds
    | .yield b => ∃ b', f b = some b' ∧ a = .yield b'
    | .nilfn => a = .nilfn
    | .iface t v => ∃ w, a = .iface t w ∧ VI f v w
    | .nilif => a = .nilif
    | .agg as => ∃ bs, a = .agg bs ∧ VIs f as bs
    | .tup as => ∃ bs, a = .tup bs ∧ VIs f as bs
    | .any => False := by
  cases h <;> first | trivial | rfl | (exact ⟨_, ‹_›, rfl⟩) | (exact ⟨_, rfl, ‹_›⟩) | skip
  · exact ⟨_, _, rfl, ⟨‹_›, ‹_›⟩, ⟨‹_›, ‹_›⟩⟩
  · exact ⟨_, rfl, ⟨‹_›, ‹_›⟩⟩
  · exact ⟨_, rfl, ⟨‹_›, ‹_›⟩⟩
theorem VI.mono {f f' : Nm} (hf : f.le f') {v a : V} (h : VI f v a) : VI f' v a := by
  induction h with
  | und v => exact .und v
  | bool b => exact .bool b
  | int k n => exact .int k n
  | str s => exact .str s
  | ptr h => exact .ptr (hf _ _ h)
  | nilptr => exact .nilptr
  | sl h => exact .sl (hf _ _ h)
  | nilsl => exact .nilsl
  | map h => exact .map (hf _ _ h)
  | nilmap => exact .nilmap
  | fn h1 h2 h3 h4 i1 i2 => exact .fn h1 i1 h3 i2
  | yield h => exact .yield (hf _ _ h)
  | nilfn => exact .nilfn
  | iface _ i => exact .iface i
  | nilif => exact .nilif
  | agg h1 h2 i1 => exact .agg h1 i1
  | tup h1 h2 i1 => exact .tup h1 i1
theorem VIs.mono {f f' : Nm} (hf : f.le f') {as bs : List V} (h : VIs f as bs) : VIs f' as bs := h.imp fun _ _ => VI.mono hf
theorem VI.mkAgg {f : Nm} {as bs : List V} (h : VIs f as bs) : VI f (.agg as) (.agg bs) := .agg h.1 h.2
theorem VI.mkTup {f : Nm} {as bs : List V} (h : VIs f as bs) : VI f (.tup as) (.tup bs) := .tup h.1 h.2
theorem VI.mkFn {f : Nm} {k : Nat} {as bs cs ds : List V} (h : VIs f as bs) (h' : VIs f cs ds) : VI f (.fn k as cs) (.fn k bs ds) := .fn h.1 h.2 h'.1 h'.2
theorem VI.lit {f : Nm} : ∀ (k : Nat) (v : V), V.lit k v = true → VI f v v
  | 0, v, h => by cases h
  | k + 1, v, h => by
    have key : ∀ l : List V, l.all (V.lit k) = true → VIs f l l := fun l hl => L2.refl' fun x hx => VI.lit k x (List.all_eq_true.1 hl x hx)
    cases v <;> simp only [V.lit, Bool.and_eq_true, Bool.false_eq_true] at h
    · exact .bool _
    · exact .int _ _
    · exact .str _
    · exact .nilptr
    · exact .nilsl
    · exact .nilmap
    · exact .mkFn (key _ h.1) (key _ h.2)
    · exact .nilfn
    · exact .iface (VI.lit k _ h)
    · exact .nilif
    · exact .mkAgg (key _ h)
    · exact .mkTup (key _ h)
theorem VI.litEq {f : Nm} : ∀ (k : Nat) {v w : V}, VI f v w → V.lit k v = true → w = v
  | 0, v, w, h, e => by cases e
  | k + 1, v, w, h, e => by
    have key : ∀ l m : List V, VIs f l m → l.all (V.lit k) = true → m = l := fun l m hl ha => by
      refine List.ext_getElem? fun i => ?_
      cases e : l[i]? with
      | none => rw [List.getElem?_eq_none_iff] at e ⊢; rw [← hl.1]; exact e
      | some x =>
        obtain ⟨y, e1, e2⟩ := hl.get e
        rw [e1, VI.litEq k e2 (List.all_eq_true.1 ha x (List.mem_of_getElem? e))]
    cases v <;> simp only [V.lit, Bool.and_eq_true, Bool.false_eq_true] at e <;> have hi := h.inv <;> simp only at hi
    · exact hi
    · exact hi
    · exact hi
    · exact hi
    · exact hi
    · exact hi
    · obtain ⟨a, b, rfl, h1, h2⟩ := hi; rw [key _ _ h1 e.1, key _ _ h2 e.2]
    · exact hi
    · obtain ⟨a, rfl, h1⟩ := hi; rw [VI.litEq k h1 e]
    · exact hi
    · obtain ⟨a, rfl, h1⟩ := hi; rw [key _ _ h1 e]
    · obtain ⟨a, rfl, h1⟩ := hi; rw [key _ _ h1 e]
theorem sameL_eq {g : V → V → Bool} (hg : ∀ v w, g v w = true → v = w) : ∀ {as bs : List V}, sameL g as bs = true → as = bs
  | [], [], _ => rfl
  | [], _ :: _, h => by cases h
  | _ :: _, [], h => by cases h
  | a :: as, b :: bs, h => by simp only [sameL, Bool.and_eq_true] at h; rw [hg _ _ h.1, sameL_eq hg h.2]
theorem V.sameN_eq : ∀ (k : Nat) (v w : V), V.sameN k v w = true → v = w
  | 0, _, _, h => by cases h
  | k + 1, v, w, h => by
    cases v <;> cases w <;> simp only [V.sameN, Bool.and_eq_true, beq_iff_eq, decide_eq_true_eq, Bool.false_eq_true, Nat.beq_eq] at h <;> first
      | rfl
      | (rw [sameL_eq (V.sameN_eq k) h])
      | (rw [h.1, V.sameN_eq k _ _ h.2])
      | (rw [h.1, sameL_eq (V.sameN_eq k) h.2.1, sameL_eq (V.sameN_eq k) h.2.2])
      | simp_all
theorem V.same_eq {v w : V} (h : v.same w = true) : v = w := V.sameN_eq 5 v w h
/-- Nothing unknown in it. -/
theorem sameN_one {f f' : Nm} (hf : f.le f' ∨ f'.le f) : ∀ (k : Nat) {v a b : V}, V.sameN k v v = true → VI f v a → VI f' v b → a = b
  | 0, v, a, b, hs, _, _ => by cases hs
  | k + 1, v, a, b, hs, hv, hw => by
    have blk : ∀ {c x y : Nat}, f c = some x → f' c = some y → x = y := fun e1 e2 => by
      rcases hf with hf | hf
      · have := hf _ _ e1; rw [e2] at this; cases this; rfl
      · have := hf _ _ e2; rw [e1] at this; cases this; rfl
    have lst : ∀ {as bs cs : List V}, sameL (V.sameN k) as as = true → VIs f as bs → VIs f' as cs → bs = cs := fun {as} => by
      induction as with
      | nil => intro bs cs _ h1 h2; rw [h1.nil_inv, h2.nil_inv]
      | cons x as ih =>
        intro bs cs hs h1 h2
        obtain ⟨b, bs', rfl, h3, h4⟩ := h1.cons_inv
        obtain ⟨c, cs', rfl, h5, h6⟩ := h2.cons_inv
        simp only [sameL, Bool.and_eq_true] at hs
        rw [sameN_one hf k hs.1 h3 h5, ih hs.2 h4 h6]
    cases v <;> simp only [V.sameN, Bool.false_eq_true] at hs <;> have ia := hv.inv <;> have ib := hw.inv <;> simp only at ia ib
    · rw [ia, ib]
    · rw [ia, ib]
    · rw [ia, ib]
    · obtain ⟨x, e1, rfl⟩ := ia; obtain ⟨y, e2, rfl⟩ := ib; rw [blk e1 e2]
    · rw [ia, ib]
    · obtain ⟨x, e1, rfl⟩ := ia; obtain ⟨y, e2, rfl⟩ := ib; rw [blk e1 e2]
    · rw [ia, ib]
    · obtain ⟨x, e1, rfl⟩ := ia; obtain ⟨y, e2, rfl⟩ := ib; rw [blk e1 e2]
    · rw [ia, ib]
    · obtain ⟨x, y, rfl, h1, h2⟩ := ia; obtain ⟨z, w, rfl, h3, h4⟩ := ib
      simp only [Bool.and_eq_true] at hs
      rw [lst hs.2.1 h1 h3, lst hs.2.2 h2 h4]
    · rw [ia, ib]
    · obtain ⟨x, rfl, h1⟩ := ia; obtain ⟨y, rfl, h2⟩ := ib
      simp only [Bool.and_eq_true] at hs
      rw [sameN_one hf k hs.2 h1 h2]
    · rw [ia, ib]
    · obtain ⟨x, rfl, h1⟩ := ia; obtain ⟨y, rfl, h2⟩ := ib; rw [lst hs h1 h2]
    · obtain ⟨x, rfl, h1⟩ := ia; obtain ⟨y, rfl, h2⟩ := ib; rw [lst hs h1 h2]
/-- What such a value tells is one value alone. -/
theorem VI.one {f f' : Nm} {v w a b : V} (hs : v.same w = true) (hv : VI f v a) (hw : VI f' w b) (hf : f.le f' ∨ f'.le f) : a = b := by
  have e := V.same_eq hs; subst e
  exact sameN_one hf 5 hs hv hw
theorem VI.flat {f : Nm} {v a : V} (h : VI f v a) (hf : v.flat = true) : a.flat = true := by
  cases h <;> first | rfl | (simp [V.flat] at hf)
theorem VI.cells {f : Nm} {v a : V} (h : VI f v a) (hf : v.cells.all V.flat = true) : VIs f v.cells a.cells ∧ a.cells.all V.flat = true := by
  cases h
  case agg as bs h1 h2 =>
    refine ⟨⟨h1, h2⟩, ?_⟩
    simp only [V.cells, List.all_eq_true] at hf ⊢
    intro x hx
    obtain ⟨i, hi, rfl⟩ := List.mem_iff_getElem.1 hx
    have hi' : i < as.length := by rw [h1]; exact hi
    exact (h2 i _ _ (List.getElem?_eq_getElem hi') (List.getElem?_eq_getElem hi)).flat (hf _ (List.getElem_mem hi'))
  case und => simp [V.cells, V.flat] at hf
  case tup => simp [V.cells, V.flat] at hf
  all_goals (refine ⟨.cons (by first | exact .bool _ | exact .int _ _ | exact .str _ | exact .ptr ‹_› | exact .nilptr | exact .sl ‹_› | exact .nilsl | exact .map ‹_› | exact .nilmap | exact .fn ‹_› ‹_› ‹_› ‹_› | exact .yield ‹_› | exact .nilfn | exact .iface ‹_› | exact .nilif) .nil, by simp [V.cells, V.flat]⟩)

def EI (f : Nm) (e e' : V × V × Nat) : Prop := VI f e.1 e'.1 ∧ VI f e.2.1 e'.2.1 ∧ e.2.2 = e'.2.2
def MI (f : Nm) : Option Nat → Option Nat → Prop
  | none, none => True
  | some b, some b' => f b = some b'
  | _, _ => False
/-- Objects. -/
def OI (f : Nm) : AObj → AObj → Prop
  | .cells cs ro, .cells cs' ro' => VIs f cs cs' ∧ ro = ro'
  | .map es c, .map es' c' => L2 (EI f) es es' ∧ c = c'
  | .iter m s se st, .iter m' s' se' st' => MI f m m' ∧ s = s' ∧ se = se' ∧ st = st'
  | .sit s p, .sit s' p' => s = s' ∧ p = p'
  | .loop t ps as bd st pd, .loop t' ps' as' bd' st' pd' => (∀ i, VI f (t i) (t' i)) ∧ ps = ps' ∧ as = as' ∧ bd = bd' ∧ st = st' ∧ pd = pd'
  | _, _ => False
theorem OI.mono {f f' : Nm} (hf : f.le f') {o x : AObj} (h : OI f o x) : OI f' o x := by
  cases o <;> cases x <;> simp only [OI] at h ⊢
  · exact ⟨h.1.mono hf, h.2⟩
  · exact ⟨h.1.imp fun _ _ q => ⟨q.1.mono hf, q.2.1.mono hf, q.2.2⟩, h.2⟩
  · refine ⟨?_, h.2⟩
    rename_i m _ _ _ m' _ _ _
    cases m <;> cases m' <;> simp only [MI] at h ⊢
    · exact h.1
    · exact h.1.elim
    · exact hf _ _ h.1
  · exact h
  · exact ⟨fun i => (h.1 i).mono hf, h.2⟩

/-- Memories; G: what must stay. -/
structure HI (f : Nm) (G : H) (n : Nat) (hc h : H) : Prop where
  at_ : ∀ i o, hc i = some o → ∃ b o', f i = some b ∧ h b = some o' ∧ OI f o o'
  inj : ∀ i j b, f i = some b → f j = some b → hc i ≠ none → hc j ≠ none → i = j
  lt : ∀ i b, f i = some b → i < 4 * n
  big : 1000 ≤ n
  glob : ∀ g, g < 500 → f g = some g
  byt : ∀ i b, f i = some b → (isB i → isB b) ∧ (isW i → isW b)
  fr : ∀ b o, G b = some o → h b = some o
  frz : ∀ i b, 1000 ≤ i → f i = some b → hc i ≠ none → G b = none
variable {f : Nm} {G hc h : H} {n : Nat}
theorem HI.new (I : HI f G n hc h) {i b : Nat} {o o' : AObj} (hi : i = 4 * n ∨ i = 4 * n + 1 ∨ i = 4 * n + 2) (hb : h b = none) (hbb : (i = 4 * n + 1 → isB b) ∧ (i = 4 * n + 2 → isW b))
    (ho : ∀ f' : Nm, f.le f' → f' i = some b → OI f' o o') : ∃ f' : Nm, f.le f' ∧ f' i = some b ∧ HI f' G (n + 1) (hset hc i (some o)) (hadd h b o') := by
  have fn : f i = none := by
    cases e : f i with
    | none => rfl
    | some c => have := I.lt i c e; omega
  have hl : f.le (fun j => if j = i then some b else f j) := fun j c hj => by
    by_cases e : j = i
    · subst e; rw [fn] at hj; cases hj
    · simp only [e, if_false]; exact hj
  refine ⟨fun j => if j = i then some b else f j, hl, if_pos rfl, ?_⟩
  have live : ∀ j, j ≠ i → hset hc i (some o) j = hc j := fun j e => by simp [hset, e]
  refine ⟨fun j x hj => ?_, fun j k c hj hk h1 h2 => ?_, fun j c hj => ?_, by have := I.big; omega, fun g hg => ?_, fun j c hj => ?_, fun c x hx => ?_, fun j c h1 hj h2 => ?_⟩
  · by_cases e : j = i
    · subst e
      rw [hset, if_pos rfl] at hj; cases hj
      exact ⟨b, o', if_pos rfl, by simp [hadd, hset], ho _ hl (if_pos rfl)⟩
    · rw [live j e] at hj
      obtain ⟨c, x', h1, h2, h3⟩ := I.at_ j x hj
      refine ⟨c, x', hl _ _ h1, ?_, h3.mono hl⟩
      have : c ≠ b := fun q => by rw [q, hb] at h2; cases h2
      simp only [hadd, hset, this, if_false]; exact h2
  · have key : ∀ k, k ≠ i → f k = some c → hc k ≠ none → c ≠ b := fun k ek hk h q => by
      obtain ⟨o1, e1⟩ := Option.ne_none_iff_exists'.1 h
      obtain ⟨c', x', q1, q2, _⟩ := I.at_ k o1 e1
      rw [hk] at q1; cases q1
      rw [q, hb] at q2; cases q2
    by_cases e1 : j = i <;> by_cases e2 : k = i
    · rw [e1, e2]
    · simp only [e1, if_true, Option.some.injEq] at hj
      simp only [e2, if_false] at hk
      rw [live k e2] at h2
      exact absurd hj.symm (key k e2 hk h2)
    · simp only [e2, if_true, Option.some.injEq] at hk
      simp only [e1, if_false] at hj
      rw [live j e1] at h1
      exact absurd hk.symm (key j e1 hj h1)
    · simp only [e1, e2, if_false] at hj hk
      rw [live j e1] at h1; rw [live k e2] at h2
      exact I.inj j k c hj hk h1 h2
  · by_cases e : j = i
    · omega
    · simp only [e, if_false] at hj; have := I.lt j c hj; omega
  · exact hl _ _ (I.glob g hg)
  · by_cases e : j = i
    · simp only [e, if_true, Option.some.injEq] at hj
      subst hj
      subst e
      refine ⟨fun hB => ?_, fun hW => ?_⟩
      · rcases hi with hi | hi | hi
        · rw [hi] at hB; have := hB.1; omega
        · exact hbb.1 hi
        · rw [hi] at hB; have := hB.1; omega
      · rcases hi with hi | hi | hi
        · rw [hi] at hW; have := hW.1; omega
        · rw [hi] at hW; have := hW.1; omega
        · exact hbb.2 hi
    · simp only [e, if_false] at hj; exact I.byt j c hj
  · have h1 := I.fr c x hx
    have : c ≠ b := fun q => by rw [q, hb] at h1; cases h1
    simp only [hadd, hset, this, if_false]; exact h1
  · by_cases e : j = i
    · simp only [e, if_true, Option.some.injEq] at hj
      subst hj
      cases q : G b with
      | none => rfl
      | some x => have := I.fr b x q; rw [hb] at this; cases this
    · simp only [e, if_false] at hj
      rw [live j e] at h2
      exact I.frz j c h1 hj h2
theorem HI.put (I : HI f G n hc h) {i b : Nat} {o o' : Option AObj} (h1000 : 1000 ≤ i) (hl : hc i ≠ none) (hf : f i = some b) (ho : ∀ x, o = some x → ∃ x', o' = some x' ∧ OI f x x') : HI f G n (hset hc i o) (hset h b o') := by
  have live : ∀ j, hset hc i o j ≠ none → hc j ≠ none := fun j hj => by
    by_cases e : j = i
    · rw [e]; exact hl
    · simp only [hset, e, if_false] at hj; exact hj
  have gb := I.frz i b h1000 hf hl
  refine ⟨fun j x hj => ?_, fun j k c hj hk h1 h2 => I.inj j k c hj hk (live j h1) (live k h2), I.lt, I.big, I.glob, I.byt, fun c x hx => ?_, fun j c h1 hj h2 => I.frz j c h1 hj (live j h2)⟩
  · by_cases e : j = i
    · subst e
      rw [hset, if_pos rfl] at hj
      obtain ⟨x', q1, q2⟩ := ho x hj
      exact ⟨b, x', hf, by simp [hset, q1], q2⟩
    · simp only [hset, e, if_false] at hj
      obtain ⟨c, x', h1, h2, h3⟩ := I.at_ j x hj
      refine ⟨c, x', h1, ?_, h3⟩
      have : c ≠ b := fun q => e (I.inj j i b (q ▸ h1) hf (by rw [hj]; simp) hl)
      simp only [hset, this, if_false]; exact h2
  · have : c ≠ b := fun q => by rw [q, gb] at hx; cases hx
    simp only [hset, this, if_false]; exact I.fr c x hx
/-- Less known of memory. -/
theorem HI.less {hc' : H} (I : HI f G n hc h) (hs : ∀ i o, hc' i = some o → hc i = some o) {n' : Nat} (hn : n ≤ n') : HI f G n' hc' h := by
  have live : ∀ j, hc' j ≠ none → hc j ≠ none := fun j hj => by
    obtain ⟨o, e⟩ := Option.ne_none_iff_exists'.1 hj
    rw [hs j o e]; simp
  exact ⟨fun i o hi => I.at_ i o (hs i o hi), fun i j b h1 h2 h3 h4 => I.inj i j b h1 h2 (live i h3) (live j h4), fun i b hi => by have := I.lt i b hi; omega, by have := I.big; omega, I.glob, I.byt, I.fr, fun i b h1 h2 h3 => I.frz i b h1 h2 (live i h3)⟩
theorem HI.sub {h' : H} (I : HI f G n hc h) (hs : h' = h) : HI f G n hc h' := hs ▸ I
theorem ev'_rel {t t' : Tm} (I : HI f G n hc h) (ht : ∀ i, VI f (t i) (t' i)) (x : Opd) : VI f (Opd.ev' t x) (Opd.ev t' x) := by
  cases x with
  | tmp i => exact ht i
  | c v =>
    simp only [Opd.ev', Opd.ev]
    cases e : v.lit 5
    · exact .und _
    · exact .lit 5 v e
  | glob g =>
    simp only [Opd.ev', Opd.ev]
    cases e : Nat.ble 500 g
    · refine .ptr (I.glob g ?_)
      have : ¬ 500 ≤ g := fun q => by rw [Nat.ble_eq_true_of_le q] at e; cases e
      omega
    · exact .und _
end Mir
