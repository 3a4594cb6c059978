/- The disk, 2: what it holds, as plain data, and where it lies. -/
import Derived.Test.YtijipnkdabdioabGreatDoorD1
set_option linter.unusedSimpArgs false
set_option linter.unusedVariables false
namespace Go.Proofs.YtijipnkdabdioabGreatDoor
open Mir
/-- A disk: the files' bytes by number (as they are, as they would be behind a crash at least), which name has which, the room, the deeds left. -/
structure Dk where
  bodies : List (Txt × Txt)
  now : List (Txt × Nat)
  safe : List (Txt × Nat)
  quota : Nat
  left : Int
  dead : Bool
def fptr (fs : List Nat) (i : Nat) : V := match fs[i]? with | some f => .ptr f 0 | none => .nilptr
def ents (fs : List Nat) (l : List (Txt × Nat)) : List (Txt × V) := l.map fun p => (p.1, fptr fs p.2)
/-- A map of that content. -/
def HasMap (h : H) (b : Nat) (l : List (Txt × V)) : Prop := ∃ es clock, h b = some (.map es clock) ∧ Rep es clock l
structure DiskAt (h : H) (p bn bs : Nat) (fs : List Nat) (D : Dk) : Prop where
  head : h p = some (.cells [.map bn, .map bs, .int .i64 D.quota, .int .i64 D.left, .bool D.dead] false)
  now : HasMap h bn (ents fs D.now)
  safe : HasMap h bs (ents fs D.safe)
  ne : bn ≠ bs
  len : fs.length = D.bodies.length
  file : ∀ (i f : Nat) (b : Txt × Txt), fs[i]? = some f → D.bodies[i]? = some b → h f = some (.cells [.str b.1, .str b.2] false)
  nodup : (p :: fs).Nodup
  nowIn : ∀ e ∈ D.now, e.2 < D.bodies.length
  safeIn : ∀ e ∈ D.safe, e.2 < D.bodies.length
  small : ∀ b ∈ D.bodies, b.1.length ≤ 1048576 ∧ b.2.length ≤ 1048576
  room : (D.quota : Int) < 9223372036854775808
  deeds : -1 ≤ D.left ∧ D.left < 9223372036854775808
def own (p bn bs : Nat) (fs : List Nat) (b : Nat) : Prop := b = p ∨ b = bn ∨ b = bs ∨ b ∈ fs
/-- A disk lies at p, and takes up just the places F. -/
def Disk (h : H) (p : Nat) (F : Nat → Prop) (D : Dk) : Prop := ∃ bn bs fs, DiskAt h p bn bs fs D ∧ F = own p bn bs fs
variable {h : H} {p bn bs : Nat} {fs : List Nat} {D : Dk}
theorem HasMap.other {l : List (Txt × V)} {b c : Nat} {o : AObj} (m : HasMap h b l) (n : b ≠ c) : HasMap (hadd h c o) b l := by
  obtain ⟨es, ck, h1, h2⟩ := m; exact ⟨es, ck, by rw [hadd_ne' n]; exact h1, h2⟩
theorem HasMap.fresh {l : List (Txt × V)} {b c : Nat} {o : AObj} (m : HasMap h b l) (n : h c = none) : HasMap (hadd h c o) b l :=
  m.other fun e => by obtain ⟨es, ck, h1, h2⟩ := m; rw [e, n] at h1; cases h1
theorem HasMap.ne_cells {l : List (Txt × V)} {b c : Nat} {cs : List V} {ro : Bool} (m : HasMap h b l) (n : h c = some (.cells cs ro)) : b ≠ c := fun e => by
  obtain ⟨es, ck, h1, h2⟩ := m; rw [e, n] at h1; cases h1
theorem fptr_at {i f : Nat} (e : fs[i]? = some f) : fptr fs i = .ptr f 0 := by simp [fptr, e]
theorem DiskAt.body (A : DiskAt h p bn bs fs D) {i : Nat} (hi : i < D.bodies.length) : ∃ f b, fs[i]? = some f ∧ D.bodies[i]? = some b ∧ h f = some (.cells [.str b.1, .str b.2] false) ∧ b.1.length ≤ 1048576 := by
  have h1 : i < fs.length := by rw [A.len]; exact hi
  exact ⟨fs[i], D.bodies[i], List.getElem?_eq_getElem h1, List.getElem?_eq_getElem hi, A.file i _ _ (List.getElem?_eq_getElem h1) (List.getElem?_eq_getElem hi), (A.small _ (List.getElem_mem hi)).1⟩
theorem DiskAt.get (A : DiskAt h p bn bs fs D) {k : Txt} {i : Nat} (e : getL D.now k = some i) : ∃ f b, fs[i]? = some f ∧ D.bodies[i]? = some b ∧ h f = some (.cells [.str b.1, .str b.2] false) ∧ b.1.length ≤ 1048576 ∧ getL (ents fs D.now) k = some (.ptr f 0) := by
  obtain ⟨f, b, h1, h2, h3, h4⟩ := A.body (A.nowIn _ (getL_mem e))
  exact ⟨f, b, h1, h2, h3, h4, by rw [ents, getL_map, e, Option.map_some, fptr_at h1]⟩
theorem DiskAt.getNone (A : DiskAt h p bn bs fs D) {k : Txt} (e : getL D.now k = none) : getL (ents fs D.now) k = none := by rw [ents, getL_map, e]; rfl
theorem DiskAt.fileMem (A : DiskAt h p bn bs fs D) {f : Nat} (e : f ∈ fs) : ∃ cs, h f = some (.cells cs false) := by
  obtain ⟨i, hi, rfl⟩ := List.mem_iff_getElem.1 e
  obtain ⟨f, b, h1, h2, h3, _⟩ := A.body (i := i) (by rw [← A.len]; exact hi)
  rw [List.getElem?_eq_getElem hi, Option.some.injEq] at h1
  exact ⟨_, by rw [h1]; exact h3⟩
theorem DiskAt.ne_p (A : DiskAt h p bn bs fs D) : bn ≠ p ∧ bs ≠ p ∧ (∀ f ∈ fs, f ≠ p) ∧ (∀ f ∈ fs, f ≠ bn) ∧ (∀ f ∈ fs, f ≠ bs) := by
  refine ⟨A.now.ne_cells A.head, A.safe.ne_cells A.head, fun f hf e => ?_, fun f hf => ?_, fun f hf => ?_⟩
  · have := A.nodup; rw [List.nodup_cons] at this; exact this.1 (e ▸ hf)
  · obtain ⟨cs, hc⟩ := A.fileMem hf; exact (A.now.ne_cells hc).symm
  · obtain ⟨cs, hc⟩ := A.fileMem hf; exact (A.safe.ne_cells hc).symm
/-- Whatever lies elsewhere turns: the disk stays. -/
theorem DiskAt.other (A : DiskAt h p bn bs fs D) {h' : H} (k : ∀ b o, own p bn bs fs b → h b = some o → h' b = some o) : DiskAt h' p bn bs fs D := by
  obtain ⟨a1, a2, a3, a4, a5, a6, a7, a8, a9, a10, a11, a12⟩ := A
  refine ⟨k _ _ (.inl rfl) a1, ?_, ?_, a4, a5, fun i f b e1 e2 => k _ _ (.inr (.inr (.inr (List.mem_of_getElem? e1)))) (a6 i f b e1 e2), a7, a8, a9, a10, a11, a12⟩
  · obtain ⟨es, ck, h1, h2⟩ := a2; exact ⟨es, ck, k _ _ (.inr (.inl rfl)) h1, h2⟩
  · obtain ⟨es, ck, h1, h2⟩ := a3; exact ⟨es, ck, k _ _ (.inr (.inr (.inl rfl))) h1, h2⟩
theorem DiskAt.new (A : DiskAt h p bn bs fs D) {b : Nat} {o : AObj} (hb : h b = none) : DiskAt (hadd h b o) p bn bs fs D :=
  A.other fun c u _ hc => by rw [hadd_ne' (ne_fresh hc hb)]; exact hc
/-- The numbers at its head turn. -/
theorem DiskAt.nums (A : DiskAt h p bn bs fs D) {q : Nat} {l : Int} {d : Bool} (hq : (q : Int) < 9223372036854775808) (hl : -1 ≤ l ∧ l < 9223372036854775808) :
    DiskAt (hadd h p (.cells [.map bn, .map bs, .int .i64 q, .int .i64 l, .bool d] false)) p bn bs fs { D with quota := q, left := l, dead := d } := by
  obtain ⟨n1, n2, n3, _, _⟩ := A.ne_p
  refine ⟨hadd_same, A.now.other n1, A.safe.other n2, A.ne, A.len, fun i f b e1 e2 => ?_, A.nodup, A.nowIn, A.safeIn, A.small, hq, hl⟩
  rw [hadd_ne' (n3 f (List.mem_of_getElem? e1))]; exact A.file i f b e1 e2
/-- A file's bytes turn. -/
theorem DiskAt.setFile (A : DiskAt h p bn bs fs D) {i f : Nat} {a c : Txt} (e : fs[i]? = some f) (ha : a.length ≤ 1048576 ∧ c.length ≤ 1048576) :
    DiskAt (hadd h f (.cells [.str a, .str c] false)) p bn bs fs { D with bodies := D.bodies.set i (a, c) } := by
  obtain ⟨n1, n2, n3, n4, n5⟩ := A.ne_p
  have hf := List.mem_of_getElem? e
  refine ⟨?_, A.now.other (n4 f hf).symm, A.safe.other (n5 f hf).symm, A.ne, by simpa using A.len, fun j g b e1 e2 => ?_, A.nodup, by simpa using A.nowIn, by simpa using A.safeIn, fun b hb => ?_, A.room, A.deeds⟩
  · rw [hadd_ne' (n3 f hf).symm]; exact A.head
  · by_cases eq : j = i
    · subst eq
      rw [e, Option.some.injEq] at e1; subst e1
      have : j < D.bodies.length := by
        have := (List.getElem?_eq_some_iff.1 e).1; rw [A.len] at this; exact this
      rw [List.getElem?_set_self this, Option.some.injEq] at e2
      subst e2; exact hadd_same
    · have ng : g ≠ f := fun x => by
        subst x
        have hn := (List.nodup_cons.1 A.nodup).2
        obtain ⟨l1, q1⟩ := List.getElem?_eq_some_iff.1 e
        obtain ⟨l2, q2⟩ := List.getElem?_eq_some_iff.1 e1
        exact eq ((List.getElem_inj hn).1 (q2.trans q1.symm))
      rw [hadd_ne' ng]
      rw [List.getElem?_set_ne (Ne.symm eq)] at e2
      exact A.file j g b e1 e2
  · rcases List.mem_or_eq_of_mem_set hb with hb | hb
    · exact A.small b hb
    · subst hb; exact ha
theorem ents_grow {fs : List Nat} {f : Nat} {l : List (Txt × Nat)} (hl : ∀ e ∈ l, e.2 < fs.length) : ents (fs ++ [f]) l = ents fs l := by
  refine List.map_congr_left fun e he => ?_
  have := hl e he
  simp [fptr, List.getElem?_append_left this]
/-- A new file's bytes. -/
theorem DiskAt.addFile (A : DiskAt h p bn bs fs D) {f : Nat} {a c : Txt} (hf : h f = none) (ha : a.length ≤ 1048576 ∧ c.length ≤ 1048576) :
    DiskAt (hadd h f (.cells [.str a, .str c] false)) p bn bs (fs ++ [f]) { D with bodies := D.bodies ++ [(a, c)] } := by
  have B : DiskAt (hadd h f (.cells [.str a, .str c] false)) p bn bs fs D := A.new hf
  have hp : f ≠ p := (ne_fresh A.head hf).symm
  have hnf : f ∉ fs := fun x => by obtain ⟨cs, hc⟩ := A.fileMem x; rw [hf] at hc; cases hc
  refine ⟨B.head, ?_, ?_, A.ne, by simp [A.len], fun i g b e1 e2 => ?_, ?_, fun e he => ?_, fun e he => ?_, fun b hb => ?_, A.room, A.deeds⟩
  · rw [ents_grow (by rw [A.len]; exact A.nowIn)]; exact B.now
  · rw [ents_grow (by rw [A.len]; exact A.safeIn)]; exact B.safe
  · by_cases hi : i < fs.length
    · rw [List.getElem?_append_left hi] at e1
      simp only at e2
      rw [List.getElem?_append_left (by rw [← A.len]; exact hi)] at e2
      exact B.file i g b e1 e2
    · rw [List.getElem?_append_right (by omega)] at e1
      simp only at e2
      rw [List.getElem?_append_right (by rw [← A.len]; omega)] at e2
      obtain ⟨x1, y1⟩ := List.getElem?_eq_some_iff.1 e1
      obtain ⟨x2, y2⟩ := List.getElem?_eq_some_iff.1 e2
      simp only [List.length_singleton] at x1 x2
      simp only [show i - fs.length = 0 from by omega, List.getElem_cons_zero] at y1
      simp only [show i - D.bodies.length = 0 from by omega, List.getElem_cons_zero] at y2
      subst y1; subst y2; exact hadd_same
  · have := A.nodup
    rw [List.nodup_cons] at this ⊢
    refine ⟨?_, ?_⟩
    · rw [List.mem_append, not_or]; exact ⟨this.1, by simpa using hp.symm⟩
    · rw [List.nodup_append]; exact ⟨this.2, by simp, fun x hx y hy => by simp at hy; subst hy; exact fun e => hnf (e ▸ hx)⟩
  · have := A.nowIn e he; simp; omega
  · have := A.safeIn e he; simp; omega
  · rcases List.mem_append.1 hb with hb | hb
    · exact A.small b hb
    · simp at hb; subst hb; exact ha
/-- The names turn. -/
theorem DiskAt.setNow (A : DiskAt h p bn bs fs D) {es : Ents} {clock : Nat} {l : List (Txt × Nat)} (R : Rep es clock (ents fs l)) (hl : ∀ e ∈ l, e.2 < D.bodies.length) :
    DiskAt (hadd h bn (.map es clock)) p bn bs fs { D with now := l } := by
  obtain ⟨n1, n2, n3, n4, n5⟩ := A.ne_p
  refine ⟨by rw [hadd_ne' n1.symm]; exact A.head, ⟨es, clock, hadd_same, R⟩, A.safe.other A.ne.symm, A.ne, A.len, fun i f b e1 e2 => ?_, A.nodup, hl, A.safeIn, A.small, A.room, A.deeds⟩
  rw [hadd_ne' (n4 f (List.mem_of_getElem? e1))]; exact A.file i f b e1 e2
theorem DiskAt.setSafe (A : DiskAt h p bn bs fs D) {es : Ents} {clock : Nat} {l : List (Txt × Nat)} (R : Rep es clock (ents fs l)) (hl : ∀ e ∈ l, e.2 < D.bodies.length) :
    DiskAt (hadd h bs (.map es clock)) p bn bs fs { D with safe := l } := by
  obtain ⟨n1, n2, n3, n4, n5⟩ := A.ne_p
  refine ⟨by rw [hadd_ne' n2.symm]; exact A.head, A.now.other A.ne, ⟨es, clock, hadd_same, R⟩, A.ne, A.len, fun i f b e1 e2 => ?_, A.nodup, A.nowIn, hl, A.small, A.room, A.deeds⟩
  rw [hadd_ne' (n5 f (List.mem_of_getElem? e1))]; exact A.file i f b e1 e2
/-- Another map for the safe names; for the names. -/
theorem DiskAt.newSafe (A : DiskAt h p bn bs fs D) {b : Nat} {l : List (Txt × Nat)} (m : HasMap h b (ents fs l)) (nb : b ≠ bn) (hl : ∀ e ∈ l, e.2 < D.bodies.length) :
    DiskAt (hadd h p (.cells [.map bn, .map b, .int .i64 D.quota, .int .i64 D.left, .bool D.dead] false)) p bn b fs { D with safe := l } := by
  obtain ⟨n1, n2, n3, n4, n5⟩ := A.ne_p
  refine ⟨hadd_same, A.now.other n1, m.other (m.ne_cells A.head), Ne.symm nb, A.len, fun i f b e1 e2 => ?_, A.nodup, A.nowIn, hl, A.small, A.room, A.deeds⟩
  rw [hadd_ne' (n3 f (List.mem_of_getElem? e1))]; exact A.file i f b e1 e2
theorem DiskAt.newNow (A : DiskAt h p bn bs fs D) {b : Nat} {l : List (Txt × Nat)} (m : HasMap h b (ents fs l)) (nb : b ≠ bs) (hl : ∀ e ∈ l, e.2 < D.bodies.length) :
    DiskAt (hadd h p (.cells [.map b, .map bs, .int .i64 D.quota, .int .i64 D.left, .bool D.dead] false)) p b bs fs { D with now := l } := by
  obtain ⟨n1, n2, n3, n4, n5⟩ := A.ne_p
  refine ⟨hadd_same, m.other (m.ne_cells A.head), A.safe.other n2, nb, A.len, fun i f b e1 e2 => ?_, A.nodup, hl, A.safeIn, A.small, A.room, A.deeds⟩
  rw [hadd_ne' (n3 f (List.mem_of_getElem? e1))]; exact A.file i f b e1 e2
theorem HasMap.clone {l : List (Txt × V)} {b c : Nat} {es : Ents} {clock : Nat} (m : h b = some (.map es clock)) (R : Rep es clock l) : HasMap (hadd h c (.map es clock)) c l := ⟨es, clock, hadd_same, R⟩
end Go.Proofs.YtijipnkdabdioabGreatDoor
