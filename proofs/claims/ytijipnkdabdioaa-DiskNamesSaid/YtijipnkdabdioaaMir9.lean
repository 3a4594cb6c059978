/- The mirror, part 9: stores, appends, copies. -/
import Derived.Test.YtijipnkdabdioaaMir8
set_option linter.unusedSimpArgs false
set_option linter.unusedVariables false
namespace Mir
open Go
variable {P : Program} {μ : Mu} {h : H} {w : World} {n : Nat} {ρ : Opd → V} {ρ' : Operand → Value} {v : V}

/-- An operation has been carried out. -/
def Done (P : Program) (μ : Mu) (h : H) (w : World) (s : Sem Next) (Q : V → H → Prop) : Prop :=
  ∃ nx v d h' μ' w', s.run P w = .ok nx w' ∧ (nx = .value d ∨ (nx = .skip ∧ d = undef)) ∧ Q v h' ∧ VR μ' v d ∧ St P μ h w μ' h' w'

/-- Two worlds that differ in one block. -/
structure At (w w' : World) (B : Nat) (x : Obj) : Prop where
  size : w'.heap.size = w.heap.size
  here : w'.heap[B]? = some x
  else_ : ∀ B', B' ≠ B → w'.heap[B']? = w.heap[B']?
  rest : w'.os = w.os ∧ w'.tape = w.tape ∧ w'.output = w.output
theorem At.trans {w w' w'' : World} {B : Nat} {x y : Obj} (a : At w w' B x) (b : At w' w'' B y) : At w w'' B y :=
  ⟨b.size.trans a.size, b.here, fun B' h => (b.else_ B' h).trans (a.else_ B' h), b.rest.1.trans a.rest.1, b.rest.2.1.trans a.rest.2.1, b.rest.2.2.trans a.rest.2.2⟩
theorem at_setCell {B off : Nat} {c : Array Value} {el : TypeId} {fr : Nat × Nat} (hb : w.heap[B]? = some (.cells c el fr)) (v : Value) : At w (w.setCell ⟨B, off, none⟩ v) B (.cells (c.setIfInBounds off v) el fr) := by
  refine ⟨by simp, ?_, fun B' hB => ?_, rfl, rfl, rfl⟩
  · simp [World.setCell, Array.getElem?_modify, hb]
  · simp [World.setCell, Array.getElem?_modify, Ne.symm hB]
theorem at_setObj {B : Nat} {o : Obj} (hb : B < w.heap.size) (x : Obj) : At w { w with heap := w.heap.setIfInBounds B x } B x := by
  refine ⟨by simp, ?_, fun B' hB => ?_, rfl, rfl, rfl⟩
  · simp [hb]
  · simp [Array.getElem?_setIfInBounds, Ne.symm hB]

theorem run_stores (B off : Nat) (el : TypeId) (fr : Nat × Nat) : ∀ (vs : List Value) (i : Nat) (w : World) (c : Array Value), w.heap[B]? = some (.cells c el fr) → off + i + vs.length ≤ c.size →
    (∀ j, off + i ≤ j → j < off + i + vs.length → ¬ (fr.1 ≤ j ∧ j < fr.2)) → (∀ v ∈ vs, v.oneCell' = true) →
    ∃ w' c', (storeCells ⟨B, off, none⟩ vs i).run P w = .ok () w' ∧ At w w' B (.cells c' el fr) ∧ c'.size = c.size ∧ c'.toList = c.toList.take (off + i) ++ vs ++ c.toList.drop (off + i + vs.length)
  | [], i, w, c, hb, _, _, _ => ⟨w, c, by simp [storeCells], ⟨rfl, hb, fun _ _ => rfl, rfl, rfl, rfl⟩, rfl, by simp⟩
  | v :: vs, i, w, c, hb, hs, hf, ho => by
    simp only [List.length_cons] at hs hf
    have hlt : off + i < c.size := by omega
    have hcell : w.cell? ⟨B, off + i, none⟩ = some c[off + i] := by simp [World.cell?, hb, hlt]
    have hfr : w.frozen? ⟨B, off + i, none⟩ = false := by
      have := hf (off + i) (Nat.le_refl _) (by omega)
      simp only [World.frozen?, hb]
      rw [Bool.and_eq_false_iff, decide_eq_false_iff_not, decide_eq_false_iff_not]
      omega
    have hst : (store ((⟨B, off, none⟩ : Addr).add i) v).run P w = .ok () (w.setCell ⟨B, off + i, none⟩ v) := by
      rw [add_lit, run_store P w _ v _ (ho v (by simp))]
      simp [hcell, hfr]
    have ha := at_setCell hb (off := off + i) v
    obtain ⟨w', c', h1, h2, h3, h4⟩ := run_stores B off el fr vs (i + 1) _ _ ha.here (by simp; omega) (fun j hj1 hj2 => hf j (by omega) (by omega)) (fun x hx => ho x (by simp [hx]))
    refine ⟨w', c', ?_, ha.trans h2, by simpa using h3, ?_⟩
    · simp only [storeCells, Sem.run_bind, hst, Result.andThen_ok, h1]
    · rw [h4]
      simp only [Array.toList_setIfInBounds, List.length_cons]
      rw [show off + (i + 1) = off + i + 1 from by omega, List.take_set, List.drop_set, if_pos (by omega)]
      have hl : off + i < c.toList.length := by simpa using hlt
      have : (c.toList.take (off + i + 1)).set (off + i) v = c.toList.take (off + i) ++ [v] := by
        rw [List.take_succ_eq_append_getElem hl]
        have hm : (c.toList.take (off + i)).length = off + i := by rw [List.length_take]; omega
        rw [List.set_append_right _ _ (by omega), hm]
        simp
      rw [this]
      simp
      congr 1
      omega

/-- Cells of a piece are others. -/
theorem splice_OR {L : Loc} {cs : List V} {c c' : Array Value} {el : TypeId} {fr : Nat × Nat} {o : Nat} {ps : List V} {ds : List Value} (hO : OR P μ L (.cells cs false) (.cells c el fr)) (hv : VRs μ ps ds) (hone : ∀ d ∈ ds, d.oneCell' = true)
    (hle : o + ps.length ≤ cs.length) (hs : c'.size = c.size) (hc : c'.toList = c.toList.take (L.s + o) ++ ds ++ c.toList.drop (L.s + o + ds.length)) :
    OR P μ L (.cells (cs.take o ++ ps ++ cs.drop (o + ps.length)) false) (.cells c' el fr) := by
  obtain ⟨c0, el0, fr0, e, h1, h2, h3, h4⟩ := hO
  cases e
  have hl := hv.len
  refine ⟨c', el, fr, rfl, hs.trans h1, by simp; omega, fun i v hi => ?_, h4⟩
  have hcl : c.toList.length = L.n := by simpa using h1
  rw [← Array.getElem?_toList, hc]
  have hm : (c.toList.take (L.s + o)).length = L.s + o := by rw [List.length_take]; omega
  have hm' : (cs.take o).length = o := by rw [List.length_take]; omega
  rcases Nat.lt_or_ge i o with ho | ho
  · rw [List.append_assoc, List.getElem?_append_left (by omega)] at hi
    rw [List.append_assoc, List.getElem?_append_left (by omega), List.getElem?_take_of_lt (by omega)]
    rw [List.getElem?_take_of_lt ho] at hi
    obtain ⟨d, hd, hr⟩ := h3 i v hi
    exact ⟨d, by rw [Array.getElem?_toList]; exact hd, hr⟩
  · rcases Nat.lt_or_ge i (o + ps.length) with ho2 | ho2
    · rw [List.getElem?_append_left (by simp; omega), List.getElem?_append_right (by omega), hm'] at hi
      rw [List.getElem?_append_left (by simp; omega), List.getElem?_append_right (by omega), hm]
      obtain ⟨d, hd, hr⟩ := hv.get hi
      exact ⟨d, by rw [← hd]; congr 1; omega, hr, hone d (List.mem_of_getElem? hd)⟩
    · rw [List.getElem?_append_right (by simp; omega)] at hi
      rw [List.getElem?_append_right (by simp; omega)]
      simp only [List.length_append, hm, hm'] at hi ⊢
      rw [List.getElem?_drop] at hi ⊢
      have e1 : o + ps.length + (i - (o + ps.length)) = i := by omega
      rw [e1] at hi
      obtain ⟨d, hd, hr⟩ := h3 i v hi
      exact ⟨d, by rw [← hd, Array.getElem?_toList]; congr 1; omega, hr⟩

theorem store_sound {t : TypeId} {x y : Operand} {a b : Opd} {s : Nat} (hρ : Rho P n μ ρ ρ') (r : R P μ h w) (h1 : cOpd P n x = some a) (h2 : cOpd P n y = some b) (hs : szOf P t = some s) {Q : V → H → Prop} {call : CP}
    (hE : HK.E call ρ h Q (.store s a b)) : Done P μ h w (do Instr.storeAt t (ρ' x) (ρ' y); pure .skip) Q := by
  have hv := rho1 hρ h1
  have hw := rho1 hρ h2
  simp only [HK.E] at hE
  cases ha : ρ a <;> simp only [ha] at hE <;> (try exact hE.elim)
  rename_i bb o
  rw [ha] at hv
  obtain ⟨L, hL, e⟩ := hv.ptr_inv
  cases hb : h bb with
  | none => simp [hb] at hE
  | some ob =>
    cases ob <;> simp only [hb] at hE <;> (try exact hE.elim)
    rename_i cs ro
    cases ro
    case true => exact hE.elim
    case false =>
      simp only at hE
      obtain ⟨c1, c2, c3, c4⟩ := hE
      obtain ⟨ds, hds, hvs⟩ := hw.cells c3
      obtain ⟨L', X, eL, hx, hO⟩ := r.at_ bb _ hb
      rw [hL] at eL; cases eL
      have hO' := hO
      obtain ⟨c, el, fr, rfl, q1, q2, q3, q4⟩ := hO
      have hl := hvs.len
      have hone : ∀ u ∈ ds, u.oneCell' = true := fun u hu => by
        obtain ⟨a', ha', hr'⟩ := hvs.mem hu
        exact hr'.oneCell (List.all_eq_true.1 c3 a' ha')
      obtain ⟨w', c', g1, g2, g3, g4⟩ := run_stores (P := P) L.B (L.s + o) el fr ds 0 w c hx (by omega) (fun j hj1 hj2 => q4 rfl j (by omega) (by omega)) hone
      simp only [Nat.add_zero] at g4
      refine ⟨.skip, .undef, undef, _, μ, w', ?_, .inr ⟨rfl, rfl⟩, c4, .undef _, ?_⟩
      · rw [e]
        have hsz : (ρ' y).cells.size = s := by rw [hds]; simp; omega
        simp only [Instr.storeAt, Instr.sureAddr, Sem.run_bind, Sem.run_pure, Result.andThen_ok, storeVar, run_sizeOf hs]
        rw [hsz]
        simp only [ne_eq, not_true_eq_false, if_false, Sem.run_pure, Sem.run_bind, Result.andThen_ok, hds, g1]
      · have := splice_OR hO' hvs hone (o := o) (by omega) g3 g4
        rw [c1] at this
        exact St.put r hb rfl hL g2.size g2.here g2.else_ g2.rest this

/-! ### Sources -/
theorem src_sound (r : R P μ h w) {es k : Nat} {y : V} {dy : Value} {new : List V} (hv : VR μ y dy) (he : srcCells es h y = some (k, new)) :
    (Builtin.lenOf dy).run P w = .ok k w ∧ new.length = k * es ∧ ∃ ds : List Value, VRs μ new ds ∧ (∀ d ∈ ds, d.oneCell' = true) ∧ ∀ m, m ≤ k → ∀ w1 : World, w1.heap = w.heap → (Builtin.firstCells es m dy).run P w1 = .ok (ds.take (m * es)).toArray w1 := by
  cases y <;> simp only [srcCells] at he <;> (try cases he; done)
  case str s =>
    split at he
    · rename_i h1; cases he; subst h1
      rw [hv.str_inv]
      refine ⟨by simp [Builtin.lenOf, bytes_size], by simp [bytesIn], s.map fun b => .int .u8 b.toNat, All2.map_same s fun x _ => .int _ _, fun d hd => by (obtain ⟨c, _, rfl⟩ := List.mem_map.1 hd; rfl), fun m hm w1 _ => ?_⟩
      simp only [Builtin.firstCells, bytes_extract, Sem.run_pure]
      congr 1
      apply Array.toList_inj.1
      simp [List.map_take]
    · cases he
  case sl b o es' len =>
    obtain ⟨L, o', cap, hL, ho, hc, hn, hp, e⟩ := hv.sl_inv
    cases hb : h b with
    | none => simp [hb] at he
    | some ob =>
      cases ob <;> simp only [hb] at he <;> (try cases he; done)
      rename_i cs ro
      split at he
      · rename_i hcond
        obtain ⟨h1, h2⟩ := hcond
        subst h1
        cases he
        obtain ⟨ds, hl, hvs, hcs⟩ := r.some_cells hb hL o (k * es) h2
        refine ⟨by rw [e]; simp [Builtin.lenOf], by simp; omega, ds, hvs, fun d hd => (by obtain ⟨j, hj⟩ := List.mem_iff_getElem?.1 hd; exact (hcs j d hj).2), fun m hm w1 hw1 => ?_⟩
        rw [e]
        simp only [Builtin.firstCells]
        rcases Nat.eq_zero_or_pos m with h0 | h0
        · subst h0; simp [loadCells, loadCellsFrom]
        · rw [ho (by omega)]
          have hmul : m * es ≤ k * es := Nat.mul_le_mul_right _ hm
          have hlen : (ds.take (m * es)).length = m * es := by rw [List.length_take]; omega
          rw [← hlen, run_cells]
          · simp [hlen]
          · intro j d hj
            have : ds[j]? = some d := by
              rcases Nat.lt_or_ge j (m * es) with hj' | hj'
              · rw [List.getElem?_take_of_lt hj'] at hj; exact hj
              · rw [List.getElem?_eq_none (by rw [hlen]; exact hj')] at hj; cases hj
            have := (hcs j d this).1
            simp only [World.cell?, hw1] at this ⊢
            exact this
      · cases he
  case nilsl =>
    cases he
    rw [hv.nilsl_inv]
    exact ⟨by simp [Builtin.lenOf], by simp, [], .nil, fun d hd => by simp at hd, fun m hm w1 _ => by simp [Builtin.firstCells]⟩

/-- A piece dies, another comes to lie in its block. -/
theorem St.reborn (r : R P μ h w) {b : Nat} {o o' : AObj} {L : Loc} {s' : Nat} {x : Obj} {w' : World} (hb : h b = some o) (hro : o.ro = false) (hL : μ b = some L) (hat : At w w' L.B x)
    (ho : ∀ b', μ b' = none → OR P (fun i => if i = b' then some ⟨L.B, s', L.n⟩ else μ i) ⟨L.B, s', L.n⟩ o' x) :
    ∃ b', b' ≠ b ∧ h b' = none ∧ St P μ h w (fun i => if i = b' then some ⟨L.B, s', L.n⟩ else μ i) (hadd (hset h b none) b' o') w' := by
  obtain ⟨N, hN⟩ := r.fin
  have hbN : μ N = none := hN N (Nat.le_refl _)
  have hh : h N = none := by
    cases e : h N with
    | none => rfl
    | some o => obtain ⟨L, _, e', _⟩ := r.at_ N o e; rw [hbN] at e'; cases e'
  have hne : N ≠ b := fun e => by subst e; rw [hbN] at hL; cases hL
  have hle : μ.le (fun i => if i = N then some ⟨L.B, s', L.n⟩ else μ i) := fun c K e => by
    have : c ≠ N := fun e' => by subst e'; rw [hbN] at e; cases e
    simp [this, e]
  have hold : ∀ c oc, hadd (hset h b none) N o' c = some oc → c ≠ N → c ≠ b ∧ h c = some oc := fun c oc hc hcN => by
    simp only [hadd, hset, hcN, if_false] at hc
    by_cases e : c = b
    · simp [e] at hc
    · simp [e] at hc; exact ⟨e, hc⟩
  have hnew : ∀ oc, hadd (hset h b none) N o' N = some oc → oc = o' := fun oc hc => by simp [hadd, hset] at hc; exact hc.symm
  have hother : ∀ c oc K, c ≠ b → h c = some oc → μ c = some K → L.B ≠ K.B := fun c oc K hcb hc hK => r.inj b c o oc L K hb hc (Ne.symm hcb) hL hK hro
  refine ⟨N, hne, hh, ⟨hle, ⟨⟨N + 1, fun c hc => ?_⟩, fun c oc hc => ?_, fun c c' o₁ o₂ L₁ L₂ h₁ h₂ hcc e₁ e₂ hr => ?_, fun g hg => let ⟨k, e⟩ := r.glob g hg; ⟨k, hle g _ e⟩⟩, by rw [hat.size]; exact Nat.le_refl _, fun B hB hO => ?_, fun B hB => ?_, fun c hc => ?_, hat.rest.1, hat.rest.2.1, hat.rest.2.2⟩⟩
  · have : c ≠ N := by omega
    simp [this]; exact hN c (by omega)
  · by_cases e : c = N
    · subst e
      have := hnew oc hc; subst this
      exact ⟨⟨L.B, s', L.n⟩, x, by simp, hat.here, ho _ hbN⟩
    · obtain ⟨hcb, hc'⟩ := hold c oc hc e
      obtain ⟨K, y, a1, a2, a3⟩ := r.at_ c oc hc'
      exact ⟨K, y, by simp [e, a1], by rw [hat.else_ _ (fun e' => hother c oc K hcb hc' a1 e'.symm)]; exact a2, a3.mono P hle⟩
  · by_cases c₁ : c = N
    · subst c₁
      have c₂ : c' ≠ c := fun e => hcc e.symm
      obtain ⟨hcb, hc'⟩ := hold c' o₂ h₂ c₂
      simp at e₁; subst e₁
      simp [c₂] at e₂
      exact hother c' o₂ L₂ hcb hc' e₂
    · obtain ⟨hcb, hc'⟩ := hold c o₁ h₁ c₁
      simp [c₁] at e₁
      by_cases c₂ : c' = N
      · subst c₂
        simp at e₂; subst e₂
        exact fun e => hother c o₁ L₁ hcb hc' e₁ e.symm
      · obtain ⟨hcb₂, hc₂⟩ := hold c' o₂ h₂ c₂
        simp [c₂] at e₂
        exact r.inj c c' o₁ o₂ L₁ L₂ hc' hc₂ hcc e₁ e₂ hr
  · exact hat.else_ B fun e => hO ⟨b, o, L, hb, hro, hL, e.symm⟩
  · obtain ⟨c, o₁, L₁, g1, g2, g3, rfl⟩ := hB
    by_cases e : c = N
    · subst e
      simp at g3; subst g3
      exact .inl ⟨b, o, L, hb, hro, hL, rfl⟩
    · obtain ⟨hcb, hc'⟩ := hold c o₁ g1 e
      simp [e] at g3
      exact .inl ⟨c, o₁, L₁, hc', g2, g3, rfl⟩
  · by_cases e : c = N
    · subst e
      refine .inr ⟨hbN, fun K hK => ?_⟩
      simp at hK; subst hK
      exact .inl ⟨b, o, L, hb, hro, hL, rfl⟩
    · cases e2 : hadd (hset h b none) N o' c with
      | none => exact absurd e2 hc
      | some oc => exact .inl (by rw [(hold c oc e2 e).2]; simp)
end Mir
