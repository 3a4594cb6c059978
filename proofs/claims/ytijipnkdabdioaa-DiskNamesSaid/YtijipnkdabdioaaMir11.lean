/- The mirror, part 11: copies, maps, iterators. -/
import Derived.Test.YtijipnkdabdioaaMir10
set_option linter.unusedSimpArgs false
set_option linter.unusedVariables false
namespace Mir
open Go
variable {P : Program} {μ : Mu} {h : H} {w : World} {n : Nat} {ρ : Opd → V} {ρ' : Operand → Value} {v : V}

theorem copy_sound {t : TypeId} {e : TypeId} {s : Nat} {x y : Operand} {a b : Opd} {ts : Array TypeId} {args : Array Value} {type : TypeId} (hρ : Rho P n μ ρ ρ') (r : R P μ h w)
    (h1 : cOpd P n x = some a) (h2 : cOpd P n y = some b) (hu : P.underlying t = some (.slice e)) (hs : szOf P e = some s) (hp : 0 < s)
    (t0 : ts[0]? = some t) (a0 : args[0]? = some (ρ' x)) (a1 : args[1]? = some (ρ' y)) {Q : V → H → Prop} {call : CP}
    (hE : HK.E call ρ h Q (.copy s a b)) : Done P μ h w (do pure (.value (← Builtin.copy_ ts type args))) Q := by
  have hx := rho1 hρ h1
  have hy := rho1 hρ h2
  simp only [HK.E] at hE
  cases hsrc : srcCells s h (ρ b) with
  | none => simp [hsrc] at hE
  | some pr =>
    obtain ⟨k, new⟩ := pr
    simp only [hsrc] at hE
    obtain ⟨hlen, hnl, ds, hdv, hflat, hfc⟩ := src_sound (w := w) r hy hsrc
    have hdl := hdv.len
    have gen : ∀ (base : Option Addr) (dLen dCap : Nat) (w' : World), ρ' x = .slice base dLen dCap → (match base with | some a => storeCells a (ds.take (min k dLen * s)) | none => pure () : Sem Unit).run P w = .ok () w' →
        (Builtin.copy_ ts type args).run P w = .ok (.int .i64 (min k dLen : Nat)) w' := by
      intro base dLen dCap w' ex hst
      have hf := hfc (min k dLen) (Nat.min_le_left _ _) w rfl
      simp only [Builtin.copy_, t0, a0, a1, Sem.run_bind, run_und hu, Result.andThen_ok, ex, hlen, run_sizeOf hs]
      rw [show Nat.min k dLen = min k dLen from rfl]
      simp only [hf, Result.andThen_ok]
      cases base with
      | none => simp only [Sem.run_pure] at hst; cases hst; rfl
      | some a => simp only [Sem.run_bind, hst]; rfl
    cases hxa : ρ a <;> simp only [hxa] at hE <;> (try exact hE.elim)
    case nilsl =>
      rw [hxa] at hx
      have ex := hx.nilsl_inv
      refine ⟨_, .int .i64 0, _, _, μ, w, val_of (gen none 0 0 w ex rfl), .inl rfl, hE, ?_, St.refl r⟩
      rw [Nat.min_zero]; exact .int _ _
    case sl bb o es len =>
      rw [hxa] at hx
      obtain ⟨L, o', cap, hL, ho, hc, hn, hpe, ex⟩ := hx.sl_inv
      cases hbb : h bb with
      | none => simp [hbb] at hE
      | some ob =>
        cases ob <;> simp only [hbb] at hE <;> (try exact hE.elim)
        rename_i cs ro
        cases ro
        case true => exact hE.elim
        case false =>
          simp only at hE
          obtain ⟨hes, c1, c2⟩ := hE
          subst hes
          obtain ⟨L', X, eL, hxx, hO⟩ := r.at_ bb _ hbb
          rw [hL] at eL; cases eL
          have hO' := hO
          obtain ⟨c, el, fr, rfl, q1, q2, q3, q4⟩ := hO
          have hmk : min k len * s ≤ k * s := Nat.mul_le_mul_right _ (Nat.min_le_left _ _)
          have hml : min k len * s ≤ len * s := Nat.mul_le_mul_right _ (Nat.min_le_right _ _)
          have htl : (new.take (min k len * s)).length = min k len * s := by rw [List.length_take]; omega
          have htd : (ds.take (min k len * s)).length = min k len * s := by rw [List.length_take]; omega
          have hone : ∀ u ∈ ds.take (min k len * s), u.oneCell' = true := fun u hu => hflat u (List.mem_of_mem_take hu)
          rcases Nat.eq_zero_or_pos len with h0 | h0
          · subst h0
            have hz : ds.take (min k 0 * s) = [] := by simp
            refine ⟨_, .int .i64 (min k 0 : Nat), _, _, μ, w, val_of (gen _ 0 cap w ex (by simp only [hz]; rfl)), .inl rfl, c2, .int _ _, ?_⟩
            have := splice_OR (P := P) (μ := μ) (c' := c) hO' (hdv.take (min k 0 * s)) hone (o := o) (by rw [htl]; omega) rfl (by rw [hz]; simp)
            rw [htl] at this
            exact St.put r hbb rfl hL rfl hxx (fun _ _ => rfl) ⟨rfl, rfl, rfl⟩ this
          · have eo := ho h0
            subst eo
            obtain ⟨w', c', g1, g2, g3, g4⟩ := run_stores (P := P) L.B (L.s + o') el fr (ds.take (min k len * s)) 0 w c hxx (by rw [htd]; omega) (fun j hj1 hj2 => q4 rfl j (by omega) (by rw [htd] at hj2; omega)) hone
            simp only [Nat.add_zero] at g4
            refine ⟨_, .int .i64 (min k len : Nat), _, _, μ, w', val_of (gen _ len cap w' ex g1), .inl rfl, c2, .int _ _, ?_⟩
            have := splice_OR hO' (hdv.take (min k len * s)) hone (o := o') (by rw [htl]; omega) g3 g4
            rw [htl] at this
            exact St.put r hbb rfl hL g2.size g2.here g2.else_ g2.rest this

/-! ### Maps -/
theorem All2.set {α β : Type} {R : α → β → Prop} {as : List α} {bs : List β} (h : All2 R as bs) (j : Nat) {a : α} {b : β} (hr : R a b) : All2 R (as.set j a) (bs.set j b) := by
  induction h generalizing j with
  | nil => simp; exact .nil
  | cons h1 h2 ih => cases j with
    | zero => simp; exact .cons hr h2
    | succ j => simp; exact .cons h1 (ih j)
theorem All2.eraseIdx {α β : Type} {R : α → β → Prop} {as : List α} {bs : List β} (h : All2 R as bs) (j : Nat) : All2 R (as.eraseIdx j) (bs.eraseIdx j) := by
  induction h generalizing j with
  | nil => simp; exact .nil
  | cons h1 h2 ih => cases j with
    | zero => simp; exact h2
    | succ j => simp; exact .cons h1 (ih j)
theorem modify_toList {es : Array MapEntry} {j : Nat} {f : MapEntry → MapEntry} {e : MapEntry} (he : es.toList[j]? = some e) : (es.modify j f).toList = es.toList.set j (f e) := by
  apply List.ext_getElem?
  intro i
  rw [Array.getElem?_toList, Array.getElem?_modify, List.getElem?_set]
  by_cases hi : j = i
  · subst hi
    have hlt : j < es.toList.length := (List.getElem?_eq_some_iff.1 he).1
    have hlt' : j < es.size := by simpa using hlt
    rw [Array.getElem?_toList] at he
    have := Array.getElem?_eq_some_iff.1 he
    simp [he, hlt']
    rw [this.2]
  · simp [hi]
theorem run_getMap {r : Nat} {es : Array MapEntry} {clock : Nat} (hx : w.heap[r]? = some (.map es clock)) : (getObj r).run P w = .ok (.map es clock) w := by simp [getObj, Sem.run, hx]
theorem run_setMap {r : Nat} {es es' : Array MapEntry} {clock clock' : Nat} (hx : w.heap[r]? = some (.map es clock)) : (setObj r (.map es' clock')).run P w = .ok () { w with heap := w.heap.setIfInBounds r (.map es' clock') } := by
  simp [setObj, Sem.run, hx]

theorem sameBits_sound {c : EqC} {x y : V} {dx dy : Value} (hc : c = .int ∨ c = .str ∨ c = .bool) (hx : VR μ x dx) (hy : VR μ y dy) (he : evEq c x y = some true) (m : Nat) : Instr.sameBits m dy dx = true := by
  rcases hc with rfl | rfl | rfl <;> cases hx <;> simp only [evEq] at he <;> (try cases he; done) <;> cases hy <;> simp only [evEq] at he <;> (try cases he; done)
  · split at he
    · rename_i e; subst e
      have := Option.some.inj he
      simp at this; subst this
      cases m <;> simp [Instr.sameBits]
    · cases he
  · have := Option.some.inj he
    simp at this; subst this
    cases m <;> simp [Instr.sameBits, bytes_beq]
  · have := Option.some.inj he
    simp at this; subst this
    cases m <;> simp [Instr.sameBits]
theorem eqOf_basic {t : TypeId} {c : EqC} (h : eqOf P t = some c) : c = .int ∨ c = .str ∨ c = .bool := by
  unfold eqOf at h
  split at h <;> cases h <;> simp
theorem eqsOf_basic : ∀ (fs : List Field) (i : Nat) (cs : List EqC), eqsOf P fs i = some cs → ∀ c ∈ cs, c = .int ∨ c = .str ∨ c = .bool
  | [], i, cs, h => by simp only [eqsOf] at h; cases h; simp
  | f :: fs, i, cs, h => by
    simp only [eqsOf] at h
    split at h
    · split at h
      · rename_i c cs' h1 h2
        cases h
        intro x hx
        rcases List.mem_cons.1 hx with rfl | hx
        · exact eqOf_basic h1
        · exact eqsOf_basic fs (i + 1) cs' h2 x hx
      · cases h
    · cases h
theorem evEqs_true : ∀ {cs : List EqC} {xs ys : List V} {dx dy : List Value}, (∀ c ∈ cs, c = .int ∨ c = .str ∨ c = .bool) → VRs μ xs dx → VRs μ ys dy → evEqs cs xs ys = some true → dx.length = dy.length ∧ ∀ p ∈ dy.zip dx, ∀ m, Instr.sameBits m p.1 p.2 = true
  | [], [], [], _, _, _, hx, hy, _ => by cases hx; cases hy; simp
  | c :: cs, x :: xs, y :: ys, _, _, hb, .cons hx hxs, .cons hy hys, he => by
    simp only [evEqs] at he
    split at he
    · rename_i h1
      obtain ⟨h2, h3⟩ := evEqs_true (fun c' hc' => hb c' (by simp [hc'])) hxs hys he
      refine ⟨by simp [h2], fun p hp m => ?_⟩
      rw [List.zip_cons_cons] at hp
      rcases List.mem_cons.1 hp with rfl | hp
      · exact sameBits_sound (hb c (by simp)) hx hy h1 m
      · exact h3 p hp m
    · cases he
    · cases he
  | [], [], _ :: _, _, _, _, _, _, he => by simp [evEqs] at he
  | [], _ :: _, _, _, _, _, _, _, he => by simp [evEqs] at he
  | _ :: _, [], _, _, _, _, _, _, he => by simp [evEqs] at he
  | _ :: _, _ :: _, [], _, _, _, _, _, he => by simp [evEqs] at he
theorem keyStays_sound {t : TypeId} {kc : KC} (hk : keyOf P t = some kc) {x y : V} {dx dy : Value} (hx : VR μ x dx) (hy : VR μ y dy) (he : keyEq kc x y = some true) (w : World) : (Instr.keyThatStays dy dx).run P w = .ok dx w := by
  have hs : Instr.sameBits 10000 dy dx = true := by
    rcases keyOf_cases hk with ⟨c, rfl, hc⟩ | ⟨cs, rfl, hc⟩
    · simp only [keyEq] at he
      exact sameBits_sound (eqOf_basic hc) hx hy he _
    · cases x <;> (try (simp [keyEq] at he; done))
      cases y <;> (try (simp [keyEq] at he; done))
      simp only [keyEq] at he
      obtain ⟨ds, rfl, h1⟩ := hx.agg_inv
      obtain ⟨es, rfl, h2⟩ := hy.agg_inv
      unfold structEq at hc
      split at hc
      · split at hc
        · obtain ⟨g1, g2⟩ := evEqs_true (eqsOf_basic _ _ _ hc) h1 h2 he
          show Instr.sameBits (9999 + 1) _ _ = true
          rw [Instr.sameBits]
          rw [Bool.and_eq_true]
          refine ⟨by simp [g1], List.all_eq_true.2 fun p hp => g2 p (by simpa using hp) _⟩
        · cases hc
      · cases hc
  simp [Instr.keyThatStays, hs]
end Mir
