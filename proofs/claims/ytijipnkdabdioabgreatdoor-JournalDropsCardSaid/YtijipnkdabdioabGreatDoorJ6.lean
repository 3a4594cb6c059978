/- The journal, 6: plain laws: a save at which the disk may die. -/
import Derived.Test.YtijipnkdabdioabGreatDoorJ5
import Derived.Test.YtijipnkdabdioabGreatDoorD8
set_option linter.unusedSimpArgs false
set_option linter.unusedVariables false
namespace Go.Proofs.YtijipnkdabdioabGreatDoor
open Mir SumMath
variable {D : Dk}
/-- How the names lie: the journal's file, if a text is kept; perhaps a new one's. -/
def headL (B : List (Txt × Txt)) (o : Option Txt) (a : List (Txt × Nat)) : Prop := match o with
  | none => a = []
  | some x => x.length ≤ 1000 ∧ ∃ i, a = [(nmF, i)] ∧ B[i]? = some (frame x, frame x)
def tailL (B : List (Txt × Txt)) (b : List (Txt × Nat)) : Prop := b = [] ∨ ∃ j y, b = [(nmT, j)] ∧ B[j]? = some y ∧ y.1.length ≤ 2000 ∧ y.2.length ≤ 2000
def Shape (B : List (Txt × Txt)) (l : List (Txt × Nat)) (o : Option Txt) : Prop := ∃ a b, l = a ++ b ∧ headL B o a ∧ tailL B b
theorem frame_small {x : Txt} (h : x.length ≤ 1000) : (frame x).length ≤ 2000 := by
  have h1 := frame_len x
  have h2 : (dec x.length).length ≤ 3 + 1 := dec_length_le (by omega)
  omega
theorem Shape.cases {B : List (Txt × Txt)} {l : List (Txt × Nat)} {o : Option Txt} (S : Shape B l o) :
    (l.length ≤ 2) ∧ ((l.map fun e => ((B[e.2]?).getD ([], [])).1.length).sum ≤ 4000) ∧ (delL l nmT).length ≤ 1 ∧ Shape B (delL l nmT) o ∧ getL (delL l nmT) nmT = none := by
  obtain ⟨a, b, rfl, ha, hb⟩ := S
  have hA : a.length ≤ 1 ∧ ((a.map fun e => ((B[e.2]?).getD ([], [])).1.length).sum ≤ 2000) ∧ delL a nmT = a ∧ getL a nmT = none := by
    cases o with
    | none => simp only [headL] at ha; subst ha; exact ⟨by simp, by simp, rfl, rfl⟩
    | some x =>
      obtain ⟨hx, i, rfl, hi⟩ := ha
      have := frame_small hx
      exact ⟨by simp, by simpa [hi] using this, rfl, rfl⟩
  obtain ⟨a1, a2, a3, a4⟩ := hA
  have hB : b.length ≤ 1 ∧ ((b.map fun e => ((B[e.2]?).getD ([], [])).1.length).sum ≤ 2000) ∧ delL b nmT = [] := by
    rcases hb with rfl | ⟨j, y, rfl, hj, h1, h2⟩
    · exact ⟨by simp, by simp, rfl⟩
    · exact ⟨by simp, by simpa [hj] using h1, rfl⟩
  obtain ⟨b1, b2, b3⟩ := hB
  have hd : delL (a ++ b) nmT = a := by
    have : delL (a ++ b) nmT = delL a nmT ++ delL b nmT := by simp [delL]
    rw [this, a3, b3, List.append_nil]
  refine ⟨by simp; omega, by rw [List.map_append, List.sum_append]; omega, by rw [hd]; omega, ?_, ?_⟩
  · rw [hd]; exact ⟨a, [], by simp, ha, .inl rfl⟩
  · rw [hd]; exact a4
theorem Shape.grow {B C : List (Txt × Txt)} {l : List (Txt × Nat)} {o : Option Txt} (S : Shape B l o) (h : ∀ (i : Nat) (y : Txt × Txt), B[i]? = some y → C[i]? = some y) : Shape C l o := by
  obtain ⟨a, b, rfl, ha, hb⟩ := S
  refine ⟨a, b, rfl, ?_, ?_⟩
  · cases o with
    | none => exact ha
    | some x => obtain ⟨hx, i, h1, h2⟩ := ha; exact ⟨hx, i, h1, h _ _ h2⟩
  · rcases hb with hb | ⟨j, y, h1, h2, h3, h4⟩
    · exact .inl hb
    · exact .inr ⟨j, y, h1, h _ _ h2, h3, h4⟩
theorem Shape.noT {B : List (Txt × Txt)} {l : List (Txt × Nat)} {o : Option Txt} (S : Shape B l o) (h : getL l nmT = none) : headL B o l := by
  obtain ⟨a, b, rfl, ha, hb⟩ := S
  rcases hb with rfl | ⟨j, y, rfl, h2, h3, h4⟩
  · rw [List.append_nil]; exact ha
  · exfalso
    rw [getL_append] at h
    have : getL [(nmT, j)] nmT = some j := rfl
    rw [this] at h
    cases hg : getL a nmT <;> simp [hg] at h
/-- A save is done, or the disk dies at it. -/
structure Live (D : Dk) : Prop where
  quota : D.quota = 1048576
  left : -1 ≤ D.left
  dead : D.dead = false
/-- What a save comes to. -/
def Saved (t : Txt) (o : Option Txt) (r : Dk × Nat) : Prop :=
  (r.2 = 0 ∧ Live r.1 ∧ r.1.safe = r.1.now ∧ Shape r.1.bodies r.1.now (some t)) ∨
  (r.2 = 8 ∧ r.1.quota = 1048576 ∧ r.1.dead = true ∧ (Shape r.1.bodies r.1.now o ∨ Shape r.1.bodies r.1.now (some t)) ∧ Shape r.1.bodies r.1.safe o)
theorem deed_live (L : Live D) : (D.deed.dead = true ∧ D.deed.quota = 1048576 ∧ D.deed.bodies = D.bodies ∧ D.deed.now = D.now ∧ D.deed.safe = D.safe) ∨
    (Live D.deed ∧ D.deed.bodies = D.bodies ∧ D.deed.now = D.now ∧ D.deed.safe = D.safe) := by
  obtain ⟨l1, l2, l3⟩ := L
  unfold Dk.deed
  split
  · exact .inr ⟨⟨l1, by simp only; omega, l3⟩, rfl, rfl, rfl⟩
  · split
    · exact .inl ⟨rfl, l1, rfl, rfl, rfl⟩
    · exact .inr ⟨⟨l1, l2, l3⟩, rfl, rfl, rfl⟩
theorem change_live {nm : Txt} {f : Nat → Dk → Dk} {i : Nat} (L : Live D) (hg : getL D.now nm = some i) :
    (∃ E, D.change nm f = (E, 8) ∧ E.dead = true ∧ E.quota = 1048576 ∧ E.bodies = D.bodies ∧ E.now = D.now ∧ E.safe = D.safe) ∨
    (∃ E, D.change nm f = (f i E, 0) ∧ Live E ∧ E.bodies = D.bodies ∧ E.now = D.now ∧ E.safe = D.safe) := by
  unfold Dk.change
  rw [if_neg (by rw [L.dead]; decide), hg]
  simp only
  rcases deed_live L with ⟨d1, d2⟩ | ⟨d1, d2⟩
  · exact .inl ⟨_, by rw [if_pos d1], d1, d2⟩
  · exact .inr ⟨_, by rw [if_neg (by rw [d1.dead]; decide)], d1, d2⟩
theorem append_live {t : Txt} {o : Option Txt} (L : Live D) (hS : headL D.bodies o D.now) (ht : t.length ≤ 2000) :
    ∃ E : Dk, D.append nmT t = (E, if E.dead = true then 8 else 0) ∧ E.quota = 1048576 ∧ (E.dead = false → Live E) ∧ E.bodies = D.bodies ++ [(t, [])] ∧ E.now = D.now ++ [(nmT, D.bodies.length)] ∧ E.safe = D.safe := by
  have hT : getL D.now nmT = none := by
    cases o with
    | none => rw [show D.now = [] from hS]; rfl
    | some x => obtain ⟨_, i, e, _⟩ := hS; rw [e]; rfl
  have hu : D.used ≤ 2000 ∧ D.now.length ≤ 1 := by
    unfold Dk.used
    cases o with
    | none => rw [show D.now = [] from hS]; simp
    | some x => obtain ⟨hx, i, e, e2⟩ := hS; rw [e]; have := frame_small hx; simpa [Dk.body, e2] using this
  have hq := L.quota
  unfold Dk.append
  rw [if_neg (by rw [L.dead]; decide), if_neg (by rw [show nameOk nmT = true by rfl]; decide), if_neg (fun x => by omega), if_neg (by omega), if_neg (by simp [Dk.over, hT]; omega)]
  refine ⟨D.deed.grow nmT t, ?_, ?_⟩
  · congr 1
    unfold Dk.grow
    rw [deed_now, hT]
  · unfold Dk.grow
    rw [deed_now, hT]
    simp only [putL_new hT]
    rcases deed_live L with ⟨d1, d2, d3, d4, d5⟩ | ⟨d1, d3, d4, d5⟩
    · exact ⟨d2, fun x => (by rw [d1] at x; cases x), by rw [d3], by rw [d3], d5⟩
    · exact ⟨d1.quota, fun _ => ⟨d1.quota, d1.left, d1.dead⟩, by rw [d3], by rw [d3], d5⟩
theorem save1_live {t : Txt} {o : Option Txt} (L : Live D) (hS : headL D.bodies o D.now) (hF : Shape D.bodies D.safe o) (ht : t.length ≤ 1000) : Saved t o (D.save1 (frame t)) := by
  have hfs := frame_small ht
  unfold Dk.save1
  obtain ⟨E, e1, e2, e3, e4, e5, e6⟩ := append_live (t := frame t) L hS hfs
  rw [e1]
  have gF : ∀ {y : Txt × Txt} (i : Nat) (z : Txt × Txt), D.bodies[i]? = some z → (D.bodies ++ [y])[i]? = some z := fun i z h => by
    rw [List.getElem?_append_left (List.getElem?_eq_some_iff.1 h).1]; exact h
  have gS : ∀ {y : Txt × Txt}, Shape (D.bodies ++ [y]) D.safe o := hF.grow gF
  have gH : ∀ {y : Txt × Txt}, headL (D.bodies ++ [y]) o D.now := by
    cases o with
    | none => exact hS
    | some x => obtain ⟨hx, i, a1, a2⟩ := hS; exact ⟨hx, i, a1, gF _ _ a2⟩
  have gN : ∀ {y : Txt × Txt}, y.1.length ≤ 2000 → y.2.length ≤ 2000 → Shape (D.bodies ++ [y]) (D.now ++ [(nmT, D.bodies.length)]) o := fun h1 h2 =>
    ⟨_, _, rfl, gH, .inr ⟨_, _, rfl, by simp, h1, h2⟩⟩
  by_cases c : E.dead = true
  · rw [if_pos c, thenD8, thenD8, thenD8]
    refine .inr ⟨rfl, e2, c, .inl ?_, ?_⟩
    · rw [e4, e5]; exact gN hfs (by simp)
    · rw [e4, e6]; exact gS
  · have c' : E.dead = false := by simpa using c
    rw [if_neg c, thenD0]
    have LE := e3 c'
    have hT : getL E.now nmT = some D.bodies.length := by
      rw [e5]
      cases o with
      | none => rw [show D.now = [] from hS]; rfl
      | some x => obtain ⟨_, i, e, _⟩ := hS; rw [e]; rfl
    simp only [Dk.sync]
    rcases change_live (f := fun i D => D.setBody i ((D.body i).1, (D.body i).1)) LE hT with ⟨G, g1, g2, g3, g4, g5, g6⟩ | ⟨G, g1, g2, g3, g4, g5⟩
    · rw [g1, thenD8, thenD8]
      refine .inr ⟨rfl, g3, g2, .inl ?_, ?_⟩
      · rw [g4, g5, e4, e5]; exact gN hfs (by simp)
      · rw [g4, g6, e4, e6]; exact gS
    · rw [g1, thenD0]
      have hbody : G.body D.bodies.length = (frame t, []) := by unfold Dk.body; rw [g3, e4]; simp
      obtain ⟨M, hM⟩ : ∃ M, M = G.setBody D.bodies.length ((G.body D.bodies.length).1, (G.body D.bodies.length).1) := ⟨_, rfl⟩
      rw [← hM]
      have LM : Live M := by rw [hM]; exact ⟨g2.quota, g2.left, g2.dead⟩
      have m1 : M.bodies = D.bodies ++ [(frame t, frame t)] := by
        rw [hM]; simp only [Dk.setBody, hbody, g3, e4]; simp
      have m2 : M.now = D.now ++ [(nmT, D.bodies.length)] := by rw [hM]; simp only [Dk.setBody, g4, e5]
      have m3 : M.safe = D.safe := by rw [hM]; simp only [Dk.setBody, g5, e6]
      clear hM hbody g1 g2 g3 g4 g5
      have hT2 : getL M.now nmT = some D.bodies.length := by rw [m2, ← e5]; exact hT
      have hren : M.rename nmT nmF = M.change nmT fun i D => { D with now := putL (delL D.now nmT) nmF i } := by
        unfold Dk.rename
        rw [if_neg (by rw [show nameOk nmF = true by rfl]; simp)]
      simp only [hren]
      rcases change_live (f := fun i D => { D with now := putL (delL D.now nmT) nmF i }) LM hT2 with ⟨G, g1, g2, g3, g4, g5, g6⟩ | ⟨G, g1, g2, g3, g4, g5⟩
      · rw [g1, thenD8]
        refine .inr ⟨rfl, g3, g2, .inl ?_, ?_⟩
        · rw [g4, g5, m1, m2]; exact gN hfs hfs
        · rw [g4, g6, m1, m3]; exact gS
      · rw [g1, thenD0]
        have hnow : putL (delL G.now nmT) nmF D.bodies.length = [(nmF, D.bodies.length)] := by
          rw [g4, m2]
          cases o with
          | none => rw [show D.now = [] from hS]; rfl
          | some x => obtain ⟨_, i, e, _⟩ := hS; rw [e]; rfl
        simp only [hnow]
        have hN : Shape (D.bodies ++ [(frame t, frame t)]) [(nmF, D.bodies.length)] (some t) := ⟨[(nmF, D.bodies.length)], [], rfl, ⟨ht, _, rfl, by simp⟩, .inl rfl⟩
        obtain ⟨M', hM'⟩ : ∃ M' : Dk, M' = { G with now := [(nmF, D.bodies.length)] } := ⟨_, rfl⟩
        have LM' : Live M' := by rw [hM']; exact ⟨g2.quota, g2.left, g2.dead⟩
        have n1 : M'.bodies = D.bodies ++ [(frame t, frame t)] := by rw [hM', ← m1]; exact g3
        have n2 : M'.now = [(nmF, D.bodies.length)] := by rw [hM']
        have n3 : M'.safe = D.safe := by rw [hM', ← m3]; exact g5
        rw [← hM']
        clear hM'
        unfold Dk.syncDir
        rw [if_neg (by rw [LM'.dead]; decide)]
        rcases deed_live LM' with ⟨d1, d2, d3, d4, d5⟩ | ⟨d1, d3, d4, d5⟩
        · rw [if_pos d1]
          exact .inr ⟨rfl, d2, d1, .inr (by rw [d3, d4, n1, n2]; exact hN), by rw [d3, d5, n1, n3]; exact gS⟩
        · rw [if_neg (by rw [d1.dead]; decide)]
          exact .inl ⟨rfl, ⟨d1.quota, d1.left, d1.dead⟩, rfl, by simp only [d3, d4, n1, n2]; exact hN⟩
theorem save_live {t : Txt} {o : Option Txt} (L : Live D) (hN : Shape D.bodies D.now o) (hF : Shape D.bodies D.safe o) (ht : t.length ≤ 1000) : Saved t o (D.save t) := by
  unfold Dk.save
  cases hT : getL D.now nmT with
  | none =>
    have hz : (D.size nmT).2 = 5 := by unfold Dk.size; rw [if_neg (by rw [L.dead]; decide), hT]
    rw [hz, if_neg (by decide)]
    exact save1_live L (hN.noT hT) hF ht
  | some j =>
    have hz : (D.size nmT).2 = 0 := by unfold Dk.size; rw [if_neg (by rw [L.dead]; decide), hT]
    rw [hz, if_pos rfl]
    unfold Dk.remove
    rcases change_live (f := fun _ D => { D with now := delL D.now nmT }) L hT with ⟨G, g1, g2, g3, g4, g5, g6⟩ | ⟨G, g1, g2, g3, g4, g5⟩
    · rw [g1, thenD8]
      exact .inr ⟨rfl, g3, g2, .inl (by rw [g4, g5]; exact hN), by rw [g4, g6]; exact hF⟩
    · rw [g1, thenD0]
      obtain ⟨_, _, _, s1, s2⟩ := hN.cases
      refine save1_live ⟨g2.quota, g2.left, g2.dead⟩ ?_ ?_ ht
      · simp only [g3, g4]; exact s1.noT s2
      · simp only [g3, g5]; exact hF
/-! Behind a crash. -/
theorem crashB_keeps {keeps : List Int} {l : List (Txt × Nat)} {s : Txt} {i : Nat} : ∀ {ns : List Txt} {k : Nat} {B : List (Txt × Txt)}, B[i]? = some (s, s) → (crashB keeps l k ns B)[i]? = some (s, s)
  | [], _, _, h => h
  | n :: ns, k, B, h => by
    rw [crashB]
    refine crashB_keeps ?_
    cases hg : getL l n with
    | none => exact h
    | some j =>
      simp only
      cases hb : B[j]? with
      | none => exact h
      | some b =>
        simp only
        by_cases e : j = i
        · subst e
          rw [h] at hb; cases hb
          have : tailOf (s, s) = [] := by unfold tailOf; simp
          have hk : keepOf keeps k [] = [] := List.length_eq_zero_iff.1 (by have := keepOf_len keeps k []; simpa using this)
          rw [this, hk, List.append_nil, List.getElem?_set_self (List.getElem?_eq_some_iff.1 h).1]
        · rw [List.getElem?_set_ne e]; exact h
theorem crashB_lens {keeps : List Int} {l : List (Txt × Nat)} {i : Nat} : ∀ {ns : List Txt} {k : Nat} {B : List (Txt × Txt)} {y : Txt × Txt}, B[i]? = some y → y.1.length ≤ 2000 → y.2.length ≤ 2000 →
    ∃ y', (crashB keeps l k ns B)[i]? = some y' ∧ y'.1.length ≤ 2000 ∧ y'.2.length ≤ 2000
  | [], _, _, y, h, h1, h2 => ⟨y, h, h1, h2⟩
  | n :: ns, k, B, y, h, h1, h2 => by
    rw [crashB]
    cases hg : getL l n with
    | none => exact crashB_lens h h1 h2
    | some j =>
      simp only
      cases hb : B[j]? with
      | none => exact crashB_lens h h1 h2
      | some b =>
        simp only
        by_cases e : j = i
        · subst e
          rw [h] at hb; cases hb
          have hn : (y.2 ++ keepOf keeps k (tailOf y)).length ≤ 2000 := by
            rw [List.length_append]
            have h1 := keepOf_len keeps k (tailOf y)
            have h2 : y.2.length + (tailOf y).length ≤ 2000 := by
              unfold tailOf
              split
              · rename_i hp
                have := (List.isPrefixOf_iff_prefix.1 hp).length_le
                rw [List.length_drop]; omega
              · simp; omega
            omega
          exact crashB_lens (List.getElem?_set_self (List.getElem?_eq_some_iff.1 h).1) hn hn
        · exact crashB_lens (by rw [List.getElem?_set_ne e]; exact h) h1 h2
theorem Shape.crash {B : List (Txt × Txt)} {l m : List (Txt × Nat)} {o : Option Txt} (S : Shape B l o) (keeps : List Int) (k : Nat) (ns : List Txt) : Shape (crashB keeps m k ns B) l o := by
  obtain ⟨a, b, rfl, ha, hb⟩ := S
  refine ⟨a, b, rfl, ?_, ?_⟩
  · cases o with
    | none => exact ha
    | some x => obtain ⟨hx, i, h1, h2⟩ := ha; exact ⟨hx, i, h1, crashB_keeps h2⟩
  · rcases hb with hb | ⟨j, y, h1, h2, h3, h4⟩
    · exact .inl hb
    · obtain ⟨y', q1, q2, q3⟩ := crashB_lens (keeps := keeps) (l := m) (ns := ns) (k := k) h2 h3 h4
      exact .inr ⟨j, y', h1, q1, q2, q3⟩
/-- Behind a crash the names are safe, and a text is kept: one of these. -/
theorem crash_live (hq : D.quota = 1048576) {o o' : Option Txt} (hN : Shape D.bodies D.now o) (hF : Shape D.bodies D.safe o') (keeps : List Int) (names : Bool) :
    Live (D.crash keeps names) ∧ (D.crash keeps names).safe = (D.crash keeps names).now ∧ Shape (D.crash keeps names).bodies (D.crash keeps names).now (if names then o else o') := by
  refine ⟨⟨hq, by simp [Dk.crash], rfl⟩, rfl, ?_⟩
  unfold Dk.crash
  cases names
  · exact hF.crash keeps 0 _
  · exact hN.crash keeps 0 _
theorem load_live (L : Live D) {o : Option Txt} (hN : Shape D.bodies D.now o) : D.load = match o with
    | none => ([], 5)
    | some x => (x, 0) := by
  have hd := L.dead
  obtain ⟨a, b, e, ha, hb⟩ := hN
  cases o with
  | none =>
    have hn : getL D.now nmF = none := by
      rw [e, show a = [] from ha]
      rcases hb with rfl | ⟨j, y, rfl, _⟩ <;> rfl
    have hz : D.size nmF = (0, 5) := by unfold Dk.size; rw [if_neg (by rw [hd]; decide), hn]
    unfold Dk.load
    rw [hz]; rfl
  | some x =>
    obtain ⟨hx, i, rfl, h2⟩ := ha
    have hg : getL D.now nmF = some i := by rw [e, getL_append]; rfl
    have hb : D.body i = (frame x, frame x) := by simp [Dk.body, h2]
    have hz : D.size nmF = ((frame x).length, 0) := by unfold Dk.size; rw [if_neg (by rw [hd]; decide), hg]; simp [hb]
    have hr : D.read nmF 0 (frame x).length = (frame x, 0) := by unfold Dk.read; rw [if_neg (by rw [hd]; decide), hg]; simp [hb]
    unfold Dk.load
    rw [hz]
    simp only [hr, if_true]
    exact opened_frame x (by omega)
theorem Arm_live {D : Dk} (L : Live D) (n : Int) : Live (D.arm n) ∧ (D.arm n).bodies = D.bodies ∧ (D.arm n).now = D.now ∧ (D.arm n).safe = D.safe := by
  unfold Dk.arm
  rw [if_neg (by rw [L.dead]; decide)]
  exact ⟨⟨L.quota, by simp only; omega, L.dead⟩, rfl, rfl, rfl⟩
/-- Between two saves: a text is kept, or none is yet. -/
structure Betw (D : Dk) (o : Option Txt) : Prop where
  live : Live D
  safe : D.safe = D.now
  now : Shape D.bodies D.now o
theorem Betw.new : Betw (Dk.new 1048576) none := ⟨⟨by rfl, by decide, rfl⟩, rfl, [], [], rfl, rfl, .inl rfl⟩
theorem Betw.arm {D : Dk} {o : Option Txt} (B : Betw D o) (n : Int) : Betw (D.arm n) o := by
  obtain ⟨L, h1, h2, h3⟩ := Arm_live B.live n
  exact ⟨L, by rw [h3, h2]; exact B.safe, by rw [h1, h2]; exact B.now⟩
theorem Betw.len {D : Dk} {o : Option Txt} (B : Betw D o) : D.now.length ≤ 2 := B.now.cases.1
end Go.Proofs.YtijipnkdabdioabGreatDoor
