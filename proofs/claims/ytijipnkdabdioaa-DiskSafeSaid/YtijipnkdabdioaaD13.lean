/- The disk, 13: the law DiskSafe. -/
import Derived.Test.YtijipnkdabdioaaD9
set_option linter.unusedSimpArgs false
set_option linter.unusedVariables false
namespace Go.Proofs.Ytijipnkdabdioaa
open Mir
structure ActP where
  kind : Int
  name : List UInt8
  to : List UInt8
  s : List UInt8
  n : Int
  at' : Int
  names : Bool
def actV (a : ActP) : List V := [.int .i64 a.kind, .str a.name, .str a.to, .str a.s, .int .i64 a.n, .int .i64 a.at', .any, .bool a.names]
def ActP.fits (a : ActP) : Prop := -9223372036854775808 ≤ a.n ∧ a.n < 9223372036854775808
def ActsAt (h : H) (v : V) (l : List ActP) : Prop := (∀ a ∈ l, a.fits) ∧
  ((l = [] ∧ (v = .nilsl ∨ ∃ b o, v = .sl b o 8 0)) ∨ ∃ b cs ro, v = .sl b 0 8 l.length ∧ h b = some (.cells cs ro) ∧ l.length * 8 ≤ cs.length ∧ ∀ i a, l[i]? = some a → (cs.drop (i * 8)).take 8 = actV a)
theorem ActsAt.len {h : H} {v : V} {l : List ActP} (I : ActsAt h v l) : llE v = some (.int .i64 (l.length : Nat)) := by
  obtain ⟨_, ⟨rfl, rfl | ⟨b, o, rfl⟩⟩ | ⟨b, cs, ro, rfl, h1, h2, h3⟩⟩ := I <;> rfl
theorem ActsAt.at {h : H} {v : V} {l : List ActP} (I : ActsAt h v l) {i : Nat} {a : ActP} (e : l[i]? = some a) :
    a.fits ∧ ∃ b, ixE 8 v (.int .i64 i) = some (.ptr b (i * 8)) ∧ ∃ cs ro, h b = some (.cells cs ro) ∧ partOf (i * 8) 8 true cs = some (.agg (actV a)) := by
  refine ⟨I.1 a (List.mem_of_getElem? e), ?_⟩
  obtain ⟨_, ⟨rfl, _⟩ | ⟨b, cs, ro, rfl, h1, h2, h3⟩⟩ := I
  · simp at e
  · have hi : i < l.length := (List.getElem?_eq_some_iff.1 e).1
    refine ⟨b, by rw [ix_sl (by omega)]; simp, cs, ro, h1, ?_⟩
    unfold partOf
    rw [if_pos rfl, if_pos (by omega), h3 i a e]
end Go.Proofs.Ytijipnkdabdioaa
namespace Go.Proofs.Ytijipnkdabdioaa
open Mir
variable {h : H} {Q : V → H → Prop}
def mine : Txt := [109, 105, 110, 101]
/-- A disk on which 'mine' is safe, behind m other deeds. -/
structure Guard (D : Dk) (f : Txt) (m : Nat) : Prop where
  dead : D.dead = false
  left : D.left = -1
  quota : D.quota = 100000
  file : D.bodies[0]? = some (f, f)
  now : getL D.now mine = some 0
  safe : getL D.safe mine = some 0
  nowIs : ∀ e ∈ D.now, e.2 = 0 → e.1 = mine
  safeIs : ∀ e ∈ D.safe, e.2 = 0 → e.1 = mine
  small : ∀ b ∈ D.bodies, b.1.length ≤ 200 + 100 * m
  nowLen : D.now.length ≤ 1 + m
  safeLen : D.safe.length ≤ 1 + m
variable {D : Dk} {f : Txt} {m : Nat} {name to t : Txt}
theorem Guard.deed (G : Guard D f m) : D.deed = D := by unfold Dk.deed; rw [G.left]; rfl
theorem Guard.later (G : Guard D f m) : Guard D f (m + 1) :=
  ⟨G.dead, G.left, G.quota, G.file, G.now, G.safe, G.nowIs, G.safeIs, fun b hb => by have := G.small b hb; omega, by have := G.nowLen; omega, by have := G.safeLen; omega⟩
theorem put_len {α : Type} {l : List (Txt × α)} {k : Txt} {v : α} : (putL l k v).length ≤ l.length + 1 := by
  cases e : getL l k with
  | none => rw [putL_new e]; simp
  | some u => rw [putL_old e]; simp
theorem del_len {α : Type} {l : List (Txt × α)} {k : Txt} : (delL l k).length ≤ l.length := List.length_filter_le ..
theorem put_is {l : List (Txt × Nat)} {k : Txt} {v : Nat} (hl : ∀ e ∈ l, e.2 = 0 → e.1 = mine) (hv : v ≠ 0) : ∀ e ∈ putL l k v, e.2 = 0 → e.1 = mine := by
  intro e he h0
  cases c : getL l k with
  | none =>
    rw [putL_new c] at he
    rcases List.mem_append.1 he with h | h
    · exact hl e h h0
    · simp only [List.mem_singleton] at h; subst h; exact (hv h0).elim
  | some u =>
    rw [putL_old c] at he
    obtain ⟨x, hx, rfl⟩ := List.mem_map.1 he
    split at h0
    · exact (hv h0).elim
    · rename_i c2; rw [if_neg c2]; exact hl x hx h0
theorem Guard.other (G : Guard D f m) (hn : name ≠ mine) {i : Nat} (e : getL D.now name = some i) : i ≠ 0 := fun h0 => hn (G.nowIs _ (getL_mem e) h0)
theorem Guard.bodyLen (G : Guard D f m) (i : Nat) : (D.body i).1.length ≤ 200 + 100 * m := by
  unfold Dk.body
  cases e : D.bodies[i]? with
  | none => simp
  | some b => simp only [Option.getD_some]; exact G.small b (List.mem_of_getElem? e)
theorem Guard.body (G : Guard D f m) {i : Nat} (hi : i ≠ 0) {b : Txt × Txt} (hb : b.1.length ≤ 200 + 100 * (m + 1)) : Guard (D.setBody i b) f (m + 1) := by
  refine ⟨G.dead, G.left, G.quota, ?_, G.now, G.safe, G.nowIs, G.safeIs, fun x hx => ?_, by have := G.nowLen; show D.now.length ≤ _; omega, by have := G.safeLen; show D.safe.length ≤ _; omega⟩
  · show (D.bodies.set i b)[0]? = _
    rw [List.getElem?_set_ne hi]; exact G.file
  · rcases List.mem_or_eq_of_mem_set hx with h | h
    · have := G.small x h; omega
    · subst h; exact hb
theorem Guard.names (G : Guard D f m) {l : List (Txt × Nat)} (h1 : getL l mine = some 0) (h2 : ∀ e ∈ l, e.2 = 0 → e.1 = mine) (h3 : l.length ≤ 1 + (m + 1)) : Guard { D with now := l } f (m + 1) :=
  ⟨G.dead, G.left, G.quota, G.file, h1, G.safe, h2, G.safeIs, fun x hx => by have := G.small x hx; omega, h3, by have := G.safeLen; show D.safe.length ≤ _; omega⟩
theorem Guard.append (G : Guard D f m) (hn : name ≠ mine) (ht : t.length ≤ 100) : Guard (D.append name t).1 f (m + 1) := by
  unfold Dk.append
  rw [if_neg (by rw [G.dead]; decide)]
  split
  · exact G.later
  split
  · exact G.later
  split
  · exact G.later
  split
  · exact G.later
  simp only [G.deed]
  unfold Dk.grow
  cases e : getL D.now name with
  | some i =>
    have := G.bodyLen i
    exact G.body (G.other hn e) (by simp only [List.length_append]; omega)
  | none =>
    have h0 : D.bodies.length ≠ 0 := by
      have := (List.getElem?_eq_some_iff.1 G.file).1; omega
    refine ⟨G.dead, G.left, G.quota, ?_, ?_, G.safe, put_is G.nowIs h0, G.safeIs, fun x hx => ?_, ?_, by have := G.safeLen; show D.safe.length ≤ _; omega⟩
    · show (D.bodies ++ _)[0]? = _
      rw [List.getElem?_append_left (by omega)]; exact G.file
    · show getL (putL _ _ _) _ = _
      rw [getL_put, if_neg (Ne.symm hn)]; exact G.now
    · rcases List.mem_append.1 hx with h | h
      · have := G.small x h; omega
      · simp only [List.mem_singleton] at h; subst h; simp only; omega
    · have := G.nowLen
      have := put_len (l := D.now) (k := name) (v := D.bodies.length)
      show (putL _ _ _).length ≤ _; omega
theorem Guard.change (G : Guard D f m) (hn : name ≠ mine) {g : Nat → Dk → Dk} (hg : ∀ i, getL D.now name = some i → i ≠ 0 → Guard (g i D) f (m + 1)) : Guard (D.change name g).1 f (m + 1) := by
  unfold Dk.change
  rw [if_neg (by rw [G.dead]; decide)]
  cases e : getL D.now name with
  | none => exact G.later
  | some i => simp only [G.deed]; rw [if_neg (by rw [G.dead]; decide)]; exact hg i e (G.other hn e)
theorem Guard.sync (G : Guard D f m) (hn : name ≠ mine) : Guard (D.sync name).1 f (m + 1) :=
  G.change hn fun i _ h0 => G.body h0 (by have := G.bodyLen i; simp only; omega)
theorem Guard.truncate (G : Guard D f m) (hn : name ≠ mine) (n : Int) : Guard (D.truncate name n).1 f (m + 1) := by
  unfold Dk.truncate
  split
  · exact G.later
  · exact G.change hn fun i _ h0 => G.body h0 (by have := G.bodyLen i; simp only [List.length_take]; omega)
theorem Guard.remove (G : Guard D f m) (hn : name ≠ mine) : Guard (D.remove name).1 f (m + 1) :=
  G.change hn fun i _ h0 => G.names (by rw [getL_del, if_neg (Ne.symm hn)]; exact G.now) (fun e he => G.nowIs e (List.mem_filter.1 he).1) (by have := G.nowLen; have := del_len (l := D.now) (k := name); omega)
theorem Guard.rename (G : Guard D f m) (hn : name ≠ mine) (ht : to ≠ mine) : Guard (D.rename name to).1 f (m + 1) := by
  unfold Dk.rename
  split
  · exact G.later
  · refine G.change hn fun i _ h0 => G.names (by rw [getL_put, if_neg (Ne.symm ht), getL_del, if_neg (Ne.symm hn)]; exact G.now) (put_is (fun e he => G.nowIs e (List.mem_filter.1 he).1) h0) ?_
    have := G.nowLen
    have := del_len (l := D.now) (k := name)
    have := put_len (l := delL D.now name) (k := to) (v := i)
    omega
theorem Guard.syncDir (G : Guard D f m) : Guard D.syncDir.1 f (m + 1) := by
  unfold Dk.syncDir
  rw [if_neg (by rw [G.dead]; decide)]
  simp only [G.deed]
  rw [if_neg (by rw [G.dead]; decide)]
  exact ⟨G.dead, G.left, G.quota, G.file, G.now, G.now, G.nowIs, G.nowIs, fun x hx => by have := G.small x hx; omega, by have := G.nowLen; show D.now.length ≤ _; omega, by have := G.nowLen; show D.now.length ≤ _; omega⟩
theorem sum_le_mul {l : List Nat} {k : Nat} (h : ∀ x ∈ l, x ≤ k) : l.sum ≤ l.length * k := by
  induction l with
  | nil => simp
  | cons x l ih =>
    have := h x (by simp)
    have := ih fun y hy => h y (by simp [hy])
    rw [List.sum_cons, List.length_cons, Nat.succ_mul]; omega
theorem Guard.used (G : Guard D f m) (hm : m ≤ 30) : D.used ≤ 99200 := by
  unfold Dk.used
  have h1 := sum_le_mul (l := D.now.map fun e => (D.body e.2).1.length) (k := 3200) fun x hx => by
    obtain ⟨e, _, rfl⟩ := List.mem_map.1 hx
    have := G.bodyLen e.2; omega
  rw [List.length_map] at h1
  have := G.nowLen
  have : D.now.length * 3200 ≤ 31 * 3200 := Nat.mul_le_mul_right _ (by omega)
  omega
/-- The text of 'mine' behind 'more' and perhaps a crash. -/
def Kept (f more : Txt) (b : Txt × Txt) : Prop := ∃ x, x <+: more ∧ b.1 = f ++ x ∧ (b.2 = f ∨ b.2 = b.1)
theorem keepOf_prefix (keeps : List Int) (k : Nat) (t : Txt) : keepOf keeps k t <+: t := by
  unfold keepOf; split
  · exact List.nil_prefix
  · exact List.take_prefix _ _
theorem Kept.cut {more : Txt} {b : Txt × Txt} (K : Kept f more b) (keeps : List Int) (k : Nat) : Kept f more (b.2 ++ keepOf keeps k (tailOf b), b.2 ++ keepOf keeps k (tailOf b)) := by
  obtain ⟨x, hx, e1, e2⟩ := K
  obtain ⟨b1, b2⟩ := b
  simp only at e1 e2 ⊢
  subst e1
  rcases e2 with rfl | rfl
  · have ht : tailOf (b2 ++ x, b2) = x := by
      unfold tailOf
      rw [if_pos (List.isPrefixOf_iff_prefix.2 (List.prefix_append _ _)), List.drop_left]
    rw [ht]
    exact ⟨_, (keepOf_prefix keeps k x).trans hx, rfl, .inr rfl⟩
  · have ht : tailOf (f ++ x, f ++ x) = [] := by
      unfold tailOf
      rw [if_pos (List.isPrefixOf_iff_prefix.2 (List.prefix_refl _)), List.drop_length]
    rw [ht]
    have : keepOf keeps k [] = [] := List.prefix_nil.1 (keepOf_prefix keeps k [])
    rw [this, List.append_nil]
    exact ⟨x, hx, rfl, .inr rfl⟩
theorem crash_kept {more : Txt} {l : List (Txt × Nat)} (keeps : List Int) : ∀ (ns : List Txt) (k : Nat) (B : List (Txt × Txt)), (∃ b, B[0]? = some b ∧ Kept f more b) → ∃ b, (crashB keeps l k ns B)[0]? = some b ∧ Kept f more b
  | [], k, B, h => h
  | n :: ns, k, B, h => by
    rw [crashB]
    refine crash_kept keeps ns (k + 1) _ ?_
    cases getL l n with
    | none => exact h
    | some i =>
      simp only
      cases e : B[i]? with
      | none => exact h
      | some b =>
        simp only
        obtain ⟨b0, h0, K⟩ := h
        by_cases hi : i = 0
        · subst hi
          rw [h0] at e; cases e
          have := (List.getElem?_eq_some_iff.1 h0).1
          exact ⟨_, by rw [List.getElem?_set_self (by omega)], K.cut keeps k⟩
        · exact ⟨b0, by rw [List.getElem?_set_ne hi]; exact h0, K⟩
theorem Guard.more (G : Guard D f m) (hm : m ≤ 30) {more : Txt} (hl : more.length ≤ 200) (hf : f.length ≤ 200) : (D.append mine more) = (D.setBody 0 (f ++ more, f), 0) := by
  have hu := G.used hm
  have hb : D.body 0 = (f, f) := by unfold Dk.body; rw [G.file]; rfl
  unfold Dk.append
  rw [if_neg (by rw [G.dead]; decide), if_neg (by decide +kernel), if_neg (by rw [G.now]; simp), if_neg (by rw [G.quota]; omega), if_neg (by unfold Dk.over; rw [G.now]; simp only [hb, Bool.or_eq_true, decide_eq_true_eq]; omega)]
  simp only [G.deed]
  rw [if_neg (by rw [G.dead]; decide)]
  unfold Dk.grow
  rw [G.now]
  simp only [hb]
  rfl
theorem Guard.back (G : Guard D f m) {more : Txt} (hl : more.length ≤ 200) (hf : f.length ≤ 200) (keeps : List Int) (names : Bool) :
    ∃ x, x <+: more ∧ ((D.setBody 0 (f ++ more, f)).crash keeps names).read mine 0 1000 = (f ++ x, 0) := by
  have h0 : 0 < D.bodies.length := (List.getElem?_eq_some_iff.1 G.file).1
  obtain ⟨b, hb, x, hx, e1, _⟩ := crash_kept (f := f) (more := more) (l := if names then D.now else D.safe) keeps (rising (if names then D.now else D.safe)) 0 (D.bodies.set 0 (f ++ more, f)) ⟨(f ++ more, f), by rw [List.getElem?_set_self h0], more, List.prefix_refl _, rfl, .inl rfl⟩
  refine ⟨x, hx, ?_⟩
  have hg : getL (if names then D.now else D.safe) mine = some 0 := by cases names; exact G.safe; exact G.now
  unfold Dk.read Dk.crash Dk.setBody
  simp only [Bool.false_eq_true, if_false, hg, Dk.body, hb, Option.getD_some, e1]
  rw [if_neg (by decide)]
  have := hx.length_le
  rw [show (0 : Int).toNat = 0 from rfl, show (1000 : Int).toNat = 1000 from rfl, List.drop_zero, List.take_of_length_le (by rw [List.length_append]; omega)]
end Go.Proofs.Ytijipnkdabdioaa
