/- The journal, plainly, 2: what a frame with more, with less, with another byte is opened to. -/
import Derived.Test.YtijipnkdabdioabGreatDoorJ0
namespace Mir
open SumMath
theorem frame_eq (t : List UInt8) : frame t = (magic ++ dec t.length ++ [32]) ++ (hexOf (sumOf t) ++ ([10] ++ t)) := by simp [frame, List.append_assoc]
theorem opened_body {n : Nat} {hex t : List UInt8} (hn : n < 9223372036854775808) (hh : (10 : UInt8) ∉ hex) : opened ((magic ++ dec n ++ [32]) ++ (hex ++ ([10] ++ t))) = 
    (if t.length < n then ([], 2) else if n < t.length then ([], 3) else if codeOf hex t = 0 then (t, 0) else ([], codeOf hex t)) := by
  unfold opened
  have h1 : magic.isPrefixOf ((magic ++ dec n ++ [32]) ++ (hex ++ ([10] ++ t))) = true := by
    rw [List.isPrefixOf_iff_prefix]; simp
  rw [if_pos h1]
  have h2 : List.drop 9 ((magic ++ dec n ++ [32]) ++ (hex ++ ([10] ++ t))) = (dec n ++ 32 :: hex) ++ 10 :: t := by simp [magic]
  rw [h2]
  unfold restOf
  rw [cutB_some]
  · unfold headOf
    simp only
    rw [cutB_some (not_mem_dec (.inl (by decide)))]
    unfold bodyOf
    simp only
    rw [if_pos (dec_numOk hn), val_dec]
  · simp only [List.mem_append, List.mem_cons, not_or]
    exact ⟨not_mem_dec (.inl (by decide)), by decide, hh⟩
theorem hex_no10 (x : Nat) : (10 : UInt8) ∉ hexOf x := not_mem_hex (by decide)
theorem opened_more (t m : List UInt8) (h : t.length < 9223372036854775808) : (opened (frame t ++ m)).2 = 0 ↔ m = [] := by
  have e : frame t ++ m = (magic ++ dec t.length ++ [32]) ++ (hexOf (sumOf t) ++ ([10] ++ (t ++ m))) := by rw [frame_eq]; simp [List.append_assoc]
  constructor
  · intro h1
    rw [e, opened_body h (hex_no10 _)] at h1
    cases m with
    | nil => rfl
    | cons x m =>
      rw [if_neg (by simp), if_pos (by simp)] at h1
      cases h1
  · rintro rfl
    rw [List.append_nil, opened_frame t h]
theorem cutB_take {c : UInt8} {l : List UInt8} (h : c ∉ l) (k : Nat) : cutB c (l.take k) = none := cutB_none fun hm => h (List.mem_of_mem_take hm)
theorem opened_less (t : List UInt8) (h : t.length < 9223372036854775808) (k : Nat) (hk : k < (frame t).length) : opened ((frame t).take k) = ([], 2) := by
  rcases Nat.lt_or_ge k 9 with h9 | h9
  · have e : (frame t).take k = magic.take k := by
      rw [frame_eq, List.append_assoc, List.append_assoc, List.take_append_of_le_length (by show k ≤ 9; omega)]
    rw [e]
    unfold opened
    rw [if_neg, if_pos]
    · rw [List.isPrefixOf_iff_prefix]; exact List.take_prefix _ _
    · rw [List.isPrefixOf_iff_prefix]
      intro p
      have := p.length_le
      rw [List.length_take] at this
      have : magic.length = 9 := rfl
      omega
  · have hp : magic.isPrefixOf ((frame t).take k) = true := by
      rw [List.isPrefixOf_iff_prefix, frame_eq, List.append_assoc, List.append_assoc]
      generalize dec t.length ++ ([32] ++ (hexOf (sumOf t) ++ ([10] ++ t))) = r
      refine ⟨r.take (k - 9), ?_⟩
      rw [List.take_append (l₁ := magic), List.take_of_length_le (show magic.length ≤ k from h9)]; rfl
    unfold opened
    rw [if_pos hp]
    have hd : List.drop 9 ((frame t).take k) = ((dec t.length ++ 32 :: hexOf (sumOf t)) ++ 10 :: t).take (k - 9) := by
      rw [List.drop_take]
      congr 1
      rw [frame_eq]; simp [magic]
    rw [hd]
    have hnl : (10 : UInt8) ∉ dec t.length ++ 32 :: hexOf (sumOf t) := by
      simp only [List.mem_append, List.mem_cons, not_or]
      exact ⟨not_mem_dec (.inl (by decide)), by decide, hex_no10 _⟩
    generalize hhd : dec t.length ++ 32 :: hexOf (sumOf t) = head at *
    rcases Nat.lt_or_ge (k - 9) (head.length + 1) with h1 | h1
    · unfold restOf
      rw [List.take_append_of_le_length (by omega), cutB_take hnl]
    · obtain ⟨j, hj⟩ : ∃ j, k - 9 = head.length + (j + 1) := ⟨k - 9 - head.length - 1, by omega⟩
      have e : (head ++ 10 :: t).take (k - 9) = head ++ 10 :: t.take j := by
        rw [hj, List.take_append, List.take_of_length_le (by omega), show head.length + (j + 1) - head.length = j + 1 from by omega, List.take_succ_cons]
      unfold restOf
      rw [e, cutB_some hnl]
      simp only
      unfold headOf
      rw [← hhd, cutB_some (not_mem_dec (.inl (by decide)))]
      unfold bodyOf
      simp only
      have hfl : (frame t).length = 9 + (head.length + (1 + t.length)) := by
        rw [frame_eq, ← hhd]; simp [magic]; omega
      rw [if_pos (dec_numOk h), val_dec, if_pos (by rw [List.length_take]; omega)]
theorem codeOf_zero {s t : List UInt8} (h : codeOf s t = 0) : s = hexOf (sumOf t) := by
  unfold codeOf at h
  split at h
  · split at h
    · assumption
    · cases h
  · cases h
theorem opened_err {s : List UInt8} (h : (opened s).2 ≠ 0) : (opened s).1 = [] := by
  unfold opened at *
  split
  · rename_i c
    rw [if_pos c] at h
    unfold restOf at *
    split
    · rfl
    · rename_i head t e
      rw [e] at h
      simp only at h
      unfold headOf at *
      split
      · rfl
      · rename_i number hex e2
        rw [e2] at h
        simp only at h
        unfold bodyOf at *
        repeat' split
        all_goals first
          | rfl
          | (simp_all; done)
  · split <;> rfl
theorem cutB_spec {c : UInt8} : ∀ {s l r : List UInt8}, cutB c s = some (l, r) → s = l ++ c :: r
  | [], _, _, h => by cases h
  | b :: s, l, r, h => by
    unfold cutB at h
    split at h
    · rename_i e; cases h; rw [e]; rfl
    · obtain ⟨⟨l', r'⟩, e1, e2⟩ := Option.map_eq_some_iff.1 h
      cases e2
      rw [cutB_spec e1]; rfl
theorem opened_ok {s : List UInt8} (h : (opened s).2 = 0) : ∃ t, s = frame t := by
  unfold opened at h
  split at h
  · rename_i c
    obtain ⟨rest, rfl⟩ := List.isPrefixOf_iff_prefix.1 c
    rw [show List.drop 9 (magic ++ rest) = rest from by simp [magic]] at h
    unfold restOf at h
    split at h
    · cases h
    · rename_i head t e
      have e1 := cutB_spec e
      unfold headOf at h
      split at h
      · cases h
      · rename_i number hex e2
        have e3 := cutB_spec e2
        unfold bodyOf at h
        split at h
        · rename_i ok
          split at h
          · cases h
          · split at h
            · cases h
            · split at h
              · rename_i c1 c2 c3
                refine ⟨t, ?_⟩
                have hn : val number = t.length := by omega
                have := ok.1
                rw [hn] at this
                rw [e1, e3, codeOf_zero c3, this, frame_eq]
                simp [List.append_assoc]
              · rename_i c4; exact absurd h c4
        · cases h
  · split at h <;> cases h
theorem dec_mono {m n : Nat} (h : m ≤ n) : (dec m).length ≤ (dec n).length := by
  obtain ⟨k, e, h1, h2⟩ := dec_len n
  rw [e, pad_len]
  exact dec_length_le (Nat.lt_of_le_of_lt h h2)
theorem frame_len (t : List UInt8) : (frame t).length = 19 + (dec t.length).length + t.length := by
  rw [frame_eq]
  simp [magic, hexOf_len]; omega
theorem frame_same {t u : List UInt8} (h : (frame t).length = (frame u).length) : t.length = u.length := by
  rw [frame_len, frame_len] at h
  rcases Nat.lt_trichotomy t.length u.length with c | c | c
  · have := dec_mono (Nat.le_of_lt c); omega
  · exact c
  · have := dec_mono (Nat.le_of_lt c); omega
theorem sumOf_lt2 (s : List UInt8) : sumOf s < 4294967296 := by
  have := ha_lt s; have := hb_lt s; unfold sumOf; omega
/-- One byte of a frame is another one: it is none. -/
theorem spoilt (t : List UInt8) (i : Nat) (x c : UInt8) (hi : (frame t)[i]? = some x) (hc : x ≠ c) : (opened ((frame t).set i c)).2 ≠ 0 := by
  intro h0
  obtain ⟨u, hu⟩ := opened_ok h0
  have hlen : t.length = u.length := frame_same (by rw [← hu, List.length_set])
  have hil : i < (frame t).length := (List.getElem?_eq_some_iff.1 hi).1
  have hoth : ∀ j, j ≠ i → (frame t)[j]? = (frame u)[j]? := fun j hj => by
    rw [← hu, List.getElem?_set_ne (Ne.symm hj)]
  have hat : (frame u)[i]? = some c := by rw [← hu, List.getElem?_set_self hil]
  have hP : frame u = (magic ++ dec t.length ++ [32]) ++ (hexOf (sumOf u) ++ ([10] ++ u)) := by rw [frame_eq, hlen]
  have hT := frame_eq t
  generalize magic ++ dec t.length ++ [32] = P at hP hT
  by_cases etu : t = u
  · rw [hP, ← etu, ← hT, hi] at hat
    exact hc (Option.some.inj hat)
  · -- some byte of the text differs
    have hx : ∃ k : Nat, t[k]? ≠ u[k]? := by
      apply Classical.byContradiction
      intro hno
      refine etu (List.ext_getElem? fun k => ?_)
      exact Classical.byContradiction fun e => hno ⟨k, e⟩
    obtain ⟨k, hk⟩ := hx
    have gT : ∀ k : Nat, (frame t)[P.length + 9 + k]? = t[k]? := fun k => by
      rw [hT, List.getElem?_append_right (by omega), List.getElem?_append_right (by rw [hexOf_len]; omega), List.getElem?_append_right (by rw [hexOf_len]; simp; omega), hexOf_len]
      congr 1; simp; omega
    have gU : ∀ k : Nat, (frame u)[P.length + 9 + k]? = u[k]? := fun k => by
      rw [hP, List.getElem?_append_right (by omega), List.getElem?_append_right (by rw [hexOf_len]; omega), List.getElem?_append_right (by rw [hexOf_len]; simp; omega), hexOf_len]
      congr 1; simp; omega
    have gH : ∀ v : List UInt8, frame v = P ++ (hexOf (sumOf v) ++ ([10] ++ v)) → ∀ j : Nat, j < 8 → (frame v)[P.length + j]? = (hexOf (sumOf v))[j]? := fun v e j hj => by
      rw [e, List.getElem?_append_right (by omega), List.getElem?_append_left (by rw [hexOf_len]; omega), show P.length + j - P.length = j from by omega]
    have hik : i = P.length + 9 + k := by
      apply Classical.byContradiction
      intro hne
      have := hoth (P.length + 9 + k) (Ne.symm hne)
      rw [gT, gU] at this
      exact hk this
    -- so the sums are told alike
    have hhex : hexOf (sumOf t) = hexOf (sumOf u) := by
      apply List.ext_getElem?
      intro j
      rcases Nat.lt_or_ge j 8 with hj | hj
      · have := hoth (P.length + j) (by omega)
        rw [gH t hT j hj, gH u hP j hj] at this
        exact this
      · rw [List.getElem?_eq_none (by rw [hexOf_len]; omega), List.getElem?_eq_none (by rw [hexOf_len]; omega)]
    have hsum := hexOf_inj (sumOf_lt2 t) (sumOf_lt2 u) hhex
    have htk : t[k]? = some x := by rw [← gT, ← hik]; exact hi
    have huk : u[k]? = some c := by rw [← gU, ← hik]; exact hat
    have hset : u = t.set k c := by
      apply List.ext_getElem?
      intro j
      by_cases hj : k = j
      · subst hj; rw [huk, List.getElem?_set_self (List.getElem?_eq_some_iff.1 htk).1]
      · rw [List.getElem?_set_ne hj]
        have := hoth (P.length + 9 + j) (by omega)
        rw [gT, gU] at this
        exact this.symm
    have hkl := (List.getElem?_eq_some_iff.1 htk).1
    have e1 : t = t.take k ++ x :: t.drop (k + 1) := by
      have := List.take_append_drop k t
      rw [List.drop_eq_getElem_cons hkl, (List.getElem?_eq_some_iff.1 htk).2] at this
      exact this.symm
    have e2 : u = t.take k ++ c :: t.drop (k + 1) := by rw [hset, List.set_eq_take_append_cons_drop, if_pos hkl]
    rw [e1, e2] at hsum
    exact hc ((changed _ _ _ _).1 hsum)
end Mir
