/- The mirror, part 20: what has been checked of a region. -/
import Derived.Test.YtijipnkdabdioaaMir19
set_option linter.unusedSimpArgs false
set_option linter.unusedVariables false
namespace Mir
open Go
variable {P : Program} {n : Nat} {ops : Array Oper}

theorem cOpers_spec : ∀ {os : List Oper} {l : List IOp}, cOpers P n ops os = some l → All2 (fun o io => cOper P n ops o = some io) os l
  | [], l, hc => by simp only [cOpers] at hc; cases hc; exact .nil
  | o :: os, l, hc => by
    simp only [cOpers] at hc
    split at hc
    · rename_i h1 h2; cases hc; exact .cons h1 (cOpers_spec h2)
    · cases hc
theorem All2.getR' {α β : Type} {R : α → β → Prop} {as : List α} {bs : List β} (h : All2 R as bs) : ∀ {i : Nat} {b : β}, bs[i]? = some b → ∃ a, as[i]? = some a ∧ R a b := by
  induction h with
  | nil => intro i b h; simp at h
  | cons h _ ih =>
    intro i b hi
    cases i with
    | zero => simp at hi; subst hi; exact ⟨_, by simp, h⟩
    | succ i => simp at hi; obtain ⟨a, ha, hr⟩ := ih hi; exact ⟨a, by simpa using ha, hr⟩
theorem ops_fit {l : List IOp} (hc : cOpers P n ops ops.toList = some l) : All2 (Fit P n ops) (List.range ops.size) l := by
  have h := cOpers_spec hc
  refine All2.of_get (by rw [← h.len]; simp) fun i j io hj hio => ?_
  obtain ⟨o, ho, hco⟩ := h.getR' hio
  have hlt : i < (List.range ops.size).length := (List.getElem?_eq_some_iff.1 hj).1
  rw [List.length_range] at hlt
  rw [List.getElem?_range hlt] at hj
  cases hj
  exact cOper_fit (by rw [← Array.getElem?_toList]; exact ho) hco

theorem numbered_spec : ∀ (l : List IOp) (s i : Nat), (numbered l s)[i]? = (l[i]?).map fun o => { o with id := s + i }
  | [], s, i => by simp [numbered]
  | o :: l, s, i => by
    cases i with
    | zero => simp [numbered]
    | succ i => simp [numbered, numbered_spec l (s + 1) i]; congr 1; funext o; congr 1; omega
theorem watched_same (M : List Nat) (l : List IOp) (o : IOp) : (watched M l o).dst = o.dst ∧ (watched M l o).guard = o.guard ∧ (watched M l o).k = o.k ∧ (watched M l o).id = o.id := by
  unfold watched; split <;> exact ⟨rfl, rfl, rfl, rfl⟩
theorem nodup_spec : ∀ {l : List Nat}, nodup l = true → l.Nodup
  | [], _ => List.nodup_nil
  | x :: l, h => by
    simp only [nodup, Bool.and_eq_true, Bool.not_eq_true'] at h
    exact List.nodup_cons.2 ⟨by simpa using h.1, nodup_spec h.2⟩
theorem pairs_spec {M : List Nat} : ∀ {l : List IOp}, pairsOk M l = true → l.Pairwise fun x y => ordered M x.id y.id = true ∨ x.swaps y = true ∨ x.lets y = true
  | [], _ => .nil
  | x :: l, h => by
    simp only [pairsOk, Bool.and_eq_true, List.all_eq_true, Bool.or_eq_true] at h
    exact .cons (fun y hy => (h.1 y hy).2) (pairs_spec h.2)
theorem edges_spec : ∀ {os : List Oper} {s : Nat}, edgesOk os s = true → ∀ (i : Nat) o, os[i]? = some o → ∀ e ∈ o.after, Region.binds .any e = true → e.on < s + i
  | [], s, _, i, o, ho => by simp at ho
  | x :: os, s, h, i, o, ho => by
    simp only [edgesOk, Bool.and_eq_true, List.all_eq_true, Bool.or_eq_true, Bool.not_eq_true', decide_eq_true_eq] at h
    intro e he hb
    cases i with
    | zero =>
      simp at ho; subst ho
      rcases h.1 e (by simpa using he) with h | h
      · rw [hb] at h; cases h
      · omega
    | succ i =>
      have := edges_spec h.2 i o (by simpa using ho) e he hb
      omega

theorem fold_bit (M : List Nat) (j : Nat) : ∀ (l : List Edge) (s : Nat), (l.foldl (fun s e => if Region.binds .any e then s ||| 2 ^ e.on ||| M.getD e.on 0 else s) s).testBit j = true →
    s.testBit j = true ∨ ∃ e ∈ l, Region.binds .any e = true ∧ (j = e.on ∨ (M.getD e.on 0).testBit j = true)
  | [], s, h => .inl h
  | e :: l, s, h => by
    rw [List.foldl_cons] at h
    rcases fold_bit M j l _ h with h | ⟨e', he', r⟩
    · by_cases hb : Region.binds .any e = true
      · rw [if_pos hb, Nat.testBit_or, Nat.testBit_or, Bool.or_eq_true, Bool.or_eq_true, Nat.testBit_two_pow, decide_eq_true_eq] at h
        rcases h with (h | h) | h
        · exact .inl h
        · exact .inr ⟨e, by simp, hb, .inl h.symm⟩
        · exact .inr ⟨e, by simp, hb, .inr h⟩
      · rw [if_neg hb] at h; exact .inl h
    · exact .inr ⟨e', List.mem_cons_of_mem _ he', r⟩
theorem masks_pre : ∀ (os : List Oper) (M : List Nat), ∃ N, masks os M = M ++ N
  | [], M => ⟨[], by simp [masks]⟩
  | o :: os, M => by
    obtain ⟨N, h⟩ := masks_pre os (M ++ [maskOf M o])
    exact ⟨maskOf M o :: N, by rw [masks, h, List.append_assoc]; rfl⟩
theorem masks_spec : ∀ (os : List Oper) (M : List Nat) (i : Nat) o, os[i]? = some o → ∃ N, (masks os M).getD (M.length + i) 0 = maskOf ((masks os M).take N) o
  | [], M, i, o, ho => by simp at ho
  | x :: os, M, i, o, ho => by
    cases i with
    | zero =>
      simp at ho; subst ho
      obtain ⟨N, h⟩ := masks_pre os (M ++ [maskOf M x])
      refine ⟨M.length, ?_⟩
      rw [masks, h]
      simp [List.getD_eq_getElem?_getD, List.append_assoc]
    | succ i =>
      obtain ⟨N, h⟩ := masks_spec os (M ++ [maskOf M x]) i o (by simpa using ho)
      refine ⟨N, ?_⟩
      rw [masks, ← h, List.length_append, List.length_singleton]
      congr 1; omega
theorem take_bit {M : List Nat} {N x j : Nat} (h : ((M.take N).getD x 0).testBit j = true) : (M.getD x 0).testBit j = true := by
  rw [List.getD_eq_getElem?_getD] at h ⊢
  rw [List.getElem?_take] at h
  split at h
  · exact h
  · simp at h
theorem mask_ok : MaskOk ops (masks ops.toList []) := by
  intro i o ho j hj
  obtain ⟨N, hN⟩ := masks_spec ops.toList [] i o (by rw [Array.getElem?_toList]; exact ho)
  simp only [List.length_nil, Nat.zero_add] at hN
  unfold ordered at hj
  rw [hN] at hj
  rcases fold_bit _ j _ _ hj with h | ⟨e, he, hb, hje⟩
  · simp at h
  · refine ⟨e, by simpa using he, hb, ?_⟩
    rcases hje with h | h
    · exact .inl h
    · exact .inr (take_bit h)

theorem told_map (l : List IOp) (hl : ∀ (i : Nat) io, l[i]? = some io → io.id = i) : ∀ (order : List Nat), (∀ i ∈ order, i < l.length) → (order.filterMap fun i => l[i]?).map (·.id) = order
  | [], _ => rfl
  | x :: order, h => by
    have hx : x < l.length := h x (by simp)
    rw [List.filterMap_cons, List.getElem?_eq_getElem hx]
    simp only [List.map_cons]
    rw [told_map l hl order fun i hi => h i (by simp [hi]), hl x _ (List.getElem?_eq_getElem hx)]

theorem cDraw_spec {told : List IOp} (hc : cDraw P n ops = some told) :
    EdgesOk ops ∧ MaskOk ops (masks ops.toList []) ∧ Told P n ops (masks ops.toList []) (Array.replicate ops.size false) told ∧ told.length ≤ ops.size := by
  unfold cDraw at hc
  split at hc
  · cases hc
  · rename_i l0 hl0
    simp only at hc
    split at hc
    · rename_i hchk
      simp only [Bool.and_eq_true, List.all_eq_true, decide_eq_true_eq] at hchk
      obtain ⟨⟨⟨⟨⟨hE, hn⟩, hall⟩, hle⟩, hlt⟩, hp⟩ := hchk
      have hfit := ops_fit hl0
      generalize hl : (numbered l0 0).map (watched (masks ops.toList []) (numbered l0 0)) = l at hc hall hle hlt hp hn
      have hspec : ∀ (i : Nat) io, l[i]? = some io → io.id = i ∧ Fit P n ops i io := by
        intro i io hi
        rw [← hl, List.getElem?_map, numbered_spec] at hi
        obtain ⟨io1, h1, rfl⟩ := Option.map_eq_some_iff.1 hi
        obtain ⟨io0, h0, rfl⟩ := Option.map_eq_some_iff.1 h1
        obtain ⟨q1, q2, q3, q4⟩ := watched_same (masks ops.toList []) (numbered l0 0) { io0 with id := 0 + i }
        refine ⟨by rw [q4]; simp, ?_⟩
        obtain ⟨j, hj, hf⟩ := hfit.getR' h0
        have hji : j = i := by
          have hlt : i < (List.range ops.size).length := (List.getElem?_eq_some_iff.1 hj).1
          rw [List.length_range] at hlt
          rw [List.getElem?_range hlt] at hj
          exact (Option.some.inj hj).symm
        subst hji
        obtain ⟨o, r1, r2, r3, r4, r5⟩ := hf
        exact ⟨o, r1, q1.trans r2, r3, r4.trans (by rw [q2]), by rw [q3]; exact r5⟩
      have hlen : l.length = ops.size := by
        have h1 := hfit.len
        rw [List.length_range] at h1
        have h2 : ∀ (l : List IOp) s, (numbered l s).length = l.length := by
          intro l; induction l with
          | nil => intro s; rfl
          | cons o l ih => intro s; simp [numbered, ih]
        rw [← hl, List.length_map, h2, ← h1]
      generalize plan (masks ops.toList []) l (l.filter (·.k.heavy)) [] = order at hc hall hle hlt hp hn
      have hmap := told_map l (fun i io h => (hspec i io h).1) order hlt
      cases hc
      have hmem : ∀ io ∈ order.filterMap (fun i => l[i]?), ∃ i, i < l.length ∧ l[i]? = some io := fun io hio => by
        obtain ⟨i, _, hi⟩ := List.mem_filterMap.1 hio
        exact ⟨i, (List.getElem?_eq_some_iff.1 hi).1, hi⟩
      refine ⟨fun i o ho e he hb => by have := edges_spec hE i o (by rw [Array.getElem?_toList]; exact ho) e he hb; omega, mask_ok, ⟨?_, fun io hio => ?_, fun i hi _ => ?_, pairs_spec hp⟩, ?_⟩
      · rw [hmap]; exact nodup_spec hn
      · obtain ⟨i, hi, hio⟩ := hmem io hio
        obtain ⟨r1, r2⟩ := hspec i io hio
        rw [r1]
        have : i < ops.size := by omega
        exact ⟨this, by simp [this], r2⟩
      · have hi' : i < l.length := by omega
        have hin := hall i (by simpa using hi')
        have hin' : i ∈ order := by simpa using hin
        refine ⟨l[i], List.mem_filterMap.2 ⟨i, hin', List.getElem?_eq_getElem hi'⟩, (hspec i _ (List.getElem?_eq_getElem hi')).1⟩
      · have h1 : (order.filterMap fun i => l[i]?).length = order.length := by rw [← List.length_map (f := fun o : IOp => o.id), hmap]
        rw [h1]
        omega
    · cases hc
end Mir
