/- The mirror, part 10: appends, copies, maps. -/
import Derived.Test.YtijipnkdabdioaaMir9
set_option linter.unusedSimpArgs false
set_option linter.unusedVariables false
namespace Mir
open Go
variable {P : Program} {μ : Mu} {h : H} {w : World} {n : Nat} {ρ : Opd → V} {ρ' : Operand → Value} {v : V}

theorem nextcap_le {need old : Nat} (h : old < need) : Builtin.nextslicecap need old ≤ 2 * need := nextslicecap_le h

/-- What an append comes to, whether there is room or not. -/
theorem append_sound {t u : TypeId} {e : TypeId} {d : TypeDesc} {i : TypeInfo} {z : List V} {x y : Operand} {a b : Opd} {ts : Array TypeId} {args : Array Value} {type : TypeId} (hρ : Rho P n μ ρ ρ') (r : R P μ h w)
    (h1 : cOpd P n x = some a) (h2 : cOpd P n y = some b) (hu : P.underlying t = some (.slice e)) (hd : P.underlying u = some d) (hd' : ∀ k, d ≠ .int k) (hz : zeroCs P e = some z) (hi : P.info? e = some i)
    (hb1 : 0 < i.bytes) (hb2 : i.bytes ≤ 1048576) (t0 : ts[0]? = some t) (t1 : ts[1]? = some u) (a0 : args[0]? = some (ρ' x)) (a1 : args[1]? = some (ρ' y)) {Q : V → H → Prop} {call : CP}
    (hE : HK.E call ρ h Q (.app z.length i.bytes a b)) : Done P μ h w (do pure (.value (← Builtin.append_ ts type args))) Q := by
  obtain ⟨zd, zds, hzr, hzc, hzv, hs, hp, _⟩ := zeroCs_sound (μ := μ) hz
  have hx := rho1 hρ h1
  have hy := rho1 hρ h2
  simp only [HK.E] at hE
  cases hsrc : srcCells z.length h (ρ b) with
  | none => simp [hsrc] at hE
  | some pr =>
    obtain ⟨k, new⟩ := pr
    simp only [hsrc] at hE
    obtain ⟨hlen, hnl, ds, hdv, hflat, hfc⟩ := src_sound (w := w) r hy hsrc
    have hdl := hdv.len
    have hti : ∀ w1 : World, (typeInfo e).run P w1 = .ok i w1 := fun w1 => run_typeInfo_some hi w1
    have hmatch : (match d with | .int _ => true | _ => false) = false := by
      cases d <;> first | rfl | exact absurd rfl (hd' _)
    have htake : ds.take (k * z.length) = ds := List.take_of_length_le (by omega)
    -- the pieces of the run
    have run0 : ∀ (base : Option Addr) (sLen sCap : Nat), ρ' x = .slice base sLen sCap → sLen + k ≤ sCap → ∀ w', (match base with | some a => storeCells (a.add (sLen * z.length)) ds.toArray.toList | none => pure () : Sem Unit).run P w = .ok () w' →
        (Builtin.append_ ts type args).run P w = .ok (.slice base (sLen + k) sCap) w' := by
      intro base sLen sCap ex hle w' hst
      have hn1 := hfc k (Nat.le_refl _) w rfl
      rw [htake] at hn1
      simp only [Builtin.append_, t0, t1, a0, a1, Sem.run_bind, run_und hu, run_und hd, Result.andThen_ok, ex, run_sizeOf hs, Sem.run_pure, hlen, hmatch]
      simp only [Bool.false_eq_true, if_false, Sem.run_bind, hlen, Result.andThen_ok, Sem.run_pure]
      rw [if_pos hle]
      simp only [Bool.not_false, if_true, Sem.run_bind, hn1, Result.andThen_ok]
      cases base with
      | none => simp only [Sem.run_pure] at hst ⊢; cases hst; rfl
      | some a => simp only [Sem.run_bind, hst, Result.andThen_ok, Sem.run_pure]
    have run1 : ∀ (base : Option Addr) (sLen sCap : Nat) (olds : List Value), ρ' x = .slice base sLen sCap → sCap < sLen + k → (sLen + k) * i.bytes ≤ 1099511627776 → sLen + k ≤ 1099511627776 →
        (Builtin.firstCells z.length sLen (ρ' x)).run P w.drew = .ok olds.toArray w.drew →
        ∃ cap, sLen + k ≤ cap ∧ (Builtin.append_ ts type args).run P w = .ok (.slice (some ⟨w.heap.size, 0, none⟩) (sLen + k) cap) (w.drew.alloc (.cells (olds.toArray ++ ds.toArray ++ Builtin.zeroCells zds.toArray (cap - (sLen + k))) e)) := by
      intro base sLen sCap olds ex hlt hby hsm hold
      have hn1 := hfc k (Nat.le_refl _) w.drew rfl
      rw [htake] at hn1
      rw [ex] at hold
      refine ⟨grownCap w (sLen + k) sCap e, grownCap_ge w _ _ _, ?_⟩
      simp only [Builtin.append_, t0, t1, a0, a1, Sem.run_bind, run_und hu, run_und hd, Result.andThen_ok, ex, run_sizeOf hs, Sem.run_pure, hlen, hmatch]
      simp only [Bool.false_eq_true, if_false, Sem.run_bind, hlen, Result.andThen_ok, Sem.run_pure]
      rw [if_neg (by omega)]
      have hno : ¬ ((i.bytes : Nat) = 0) := by omega
      have h48 : ¬ (Builtin.nextslicecap (sLen + k) sCap * i.bytes > 2 ^ 48) := by
        have := nextcap_le hlt
        have h2 : Builtin.nextslicecap (sLen + k) sCap * i.bytes ≤ 2 * (sLen + k) * i.bytes := Nat.mul_le_mul_right _ this
        rw [Nat.mul_assoc] at h2
        rw [show (2:Nat)^48 = 281474976710656 from by decide]
        omega
      simp only [Sem.run_bind, hti, Result.andThen_ok, Sem.run_pure, hno, or_false, and_false, Bool.false_eq_true, if_false, h48, run_choose, Question.forced, run_askRoom]
      simp only [show ({ w with drawn := w.drawn + 1 } : World) = w.drew from rfl, hold, hn1, Result.andThen_ok, hti, Sem.run_bind, run_askRoom, Bool.not_false, if_true, hzr, hzc]
      simp only [newRow, Sem.run_bind, run_newObj, Result.andThen_ok, Sem.run_pure]
      rfl
    cases hxa : ρ a <;> simp only [hxa] at hE <;> (try exact hE.elim)
    case nilsl =>
      rw [hxa] at hx
      have ex := hx.nilsl_inv
      split at hE
      · rename_i hk0
        subst hk0
        refine ⟨_, .nilsl, _, _, μ, w, val_of (run0 none 0 0 ex (by omega) w rfl), .inl rfl, hE, by simpa using VR.nilsl, St.refl r⟩
      · rename_i hk0
        obtain ⟨c1, c2, c3⟩ := hE
        obtain ⟨cap, hcap, hrun⟩ := run1 none 0 0 [] ex (by omega) (by simpa using c1) (by omega) (by rw [ex]; simp [Builtin.firstCells])
        have r' : R P μ h w.drew := r.eqv rfl
        obtain ⟨b', μ', hb', q1, q2, q3⟩ := new_cells (w := w.drew) r' hdv hflat (#[] ++ ds.toArray ++ Builtin.zeroCells zds.toArray (cap - (0 + k))) e (0, 0) (Builtin.zeroCells zds.toArray (cap - (0 + k))).toList (by simp) (fun j _ hj => by simp at hj)
        refine ⟨_, _, _, _, μ', _, val_of hrun, .inl rfl, c3 b' q1, ?_, St.trans ((St.refl r).eqv (eqv_drew w)) q3⟩
        rw [Nat.zero_add]
        rw [Nat.zero_add] at hcap
        refine .sl (o' := 0) hb' (fun _ => rfl) hcap ?_ hp
        simp [Builtin.zeroCells, ← hdl, hnl, ← hzv.len]
        rw [← Nat.add_mul]
        exact Nat.mul_le_mul_right _ (by omega)
    case sl bb o es len =>
      rw [hxa] at hx
      obtain ⟨L, o', cap, hL, ho, hc, hn, hpe, ex⟩ := hx.sl_inv
      split at hE
      · rename_i hk0
        obtain ⟨hes, hq⟩ := hE
        subst hk0; subst hes
        have hds0 : ds = [] := by
          have : ds.length = 0 := by omega
          exact List.length_eq_zero_iff.1 this
        refine ⟨_, .sl bb o z.length len, _, _, μ, w, val_of (run0 (some ⟨L.B, L.s + o', none⟩) len cap ex (by omega) w (by subst hds0; simp [storeCells])), .inl rfl, hq, ?_, St.refl r⟩
        rw [Nat.add_zero, ← ex]; exact hx
      · rename_i hk0
        cases hbb : h bb with
        | none => simp [hbb] at hE
        | some ob =>
          cases ob <;> simp only [hbb] at hE <;> (try exact hE.elim)
          rename_i cs ro
          cases ro
          case true => exact hE.elim
          case false =>
            simp only at hE
            obtain ⟨hes, c1, c2, c3, c4⟩ := hE
            subst hes
            obtain ⟨L', X, eL, hxx, hO⟩ := r.at_ bb _ hbb
            rw [hL] at eL; cases eL
            obtain ⟨c, el, fr, rfl, q1, q2, q3, q4⟩ := hO
            obtain ⟨olds, ol, ov, oc⟩ := r.some_cells hbb hL o (len * z.length) c1
            by_cases hroom : len + k ≤ cap
            · -- there is room
              have hsp : L.s + o' + len * z.length + ds.length ≤ L.n := by
                have : (len + k) * z.length ≤ cap * z.length := Nat.mul_le_mul_right _ hroom
                rw [Nat.add_mul] at this
                omega
              obtain ⟨w', c', g1, g2, g3, g4⟩ := run_stores (P := P) L.B (L.s + o' + len * z.length) el fr ds 0 w c hxx (by omega) (fun j hj1 hj2 => q4 rfl j (by omega) (by omega)) hflat
              have hrun := run0 (some ⟨L.B, L.s + o', none⟩) len cap ex hroom w' (by show (storeCells (Addr.add ⟨L.B, L.s + o', none⟩ (len * z.length)) ds.toArray.toList).run P w = _; rw [add_lit]; exact g1)
              have hOnew : ∀ b', μ b' = none → OR P (fun i => if i = b' then some ⟨L.B, L.s + o', L.n⟩ else μ i) ⟨L.B, L.s + o', L.n⟩ (.cells ((cs.drop o).take (len * z.length) ++ new) false) (.cells c' el fr) := by
                intro b' hb'
                have hml : ((cs.drop o).take (len * z.length)).length = len * z.length := by simp; omega
                refine ⟨c', el, fr, rfl, g3.trans q1, by simp only [List.length_append, hml]; omega, fun ii v hii => ?_, fun _ j hj1 hj2 => q4 rfl j (by simp only at hj1; omega) hj2⟩
                simp only
                rw [← Array.getElem?_toList, g4]
                have hle : μ.le (fun i => if i = b' then some ⟨L.B, L.s + o', L.n⟩ else μ i) := fun c K e => by
                  have : c ≠ b' := fun e' => by subst e'; rw [hb'] at e; cases e
                  simp [this, e]
                have hcl : c.toList.length = L.n := by simpa using q1
                have hm : (c.toList.take (L.s + o' + len * z.length + 0)).length = L.s + o' + len * z.length := by rw [List.length_take]; omega
                rcases Nat.lt_or_ge ii (len * z.length) with hi1 | hi1
                · rw [List.getElem?_append_left (by omega)] at hii
                  rw [List.append_assoc, List.getElem?_append_left (by omega), List.getElem?_take_of_lt (by omega)]
                  have hl0 : 0 < len := by
                    rcases Nat.eq_zero_or_pos len with e | e
                    · subst e; simp at hi1
                    · exact e
                  rw [List.getElem?_take_of_lt hi1, List.getElem?_drop] at hii
                  obtain ⟨d', hd1, hd2, hd3⟩ := q3 (o + ii) v hii
                  refine ⟨d', ?_, hd2.mono hle, hd3⟩
                  rw [Array.getElem?_toList, ← hd1, ho hl0]
                  congr 1
                  omega
                · rw [List.getElem?_append_right (by omega), hml] at hii
                  obtain ⟨d', hd1, hd2⟩ := hdv.get hii
                  have hlt : ii - len * z.length < ds.length := (List.getElem?_eq_some_iff.1 hd1).1
                  refine ⟨d', ?_, hd2.mono hle, hflat d' (List.mem_of_getElem? hd1)⟩
                  rw [List.getElem?_append_left (by rw [List.length_append, hm]; omega), List.getElem?_append_right (by rw [hm]; omega), hm, ← hd1]
                  congr 1
                  omega
              obtain ⟨b', p1, p2, p3⟩ := St.reborn (P := P) r hbb rfl hL g2 hOnew
              refine ⟨_, _, _, _, _, w', val_of hrun, .inl rfl, c4 b' p1 p2, .sl (L := ⟨L.B, L.s + o', L.n⟩) (o' := 0) (by simp) (fun _ => rfl) hroom (by simpa using hn) hpe, p3⟩
            · -- there is none
              have hold : (Builtin.firstCells z.length len (ρ' x)).run P w.drew = .ok olds.toArray w.drew := by
                rw [ex]
                simp only [Builtin.firstCells]
                rcases Nat.eq_zero_or_pos len with h0 | h0
                · subst h0
                  have : olds = [] := by simpa using ol
                  subst this
                  simp [loadCells, loadCellsFrom]
                · rw [ho h0, ← ol]
                  exact run_cells (w := w.drew) fun j d hj => (oc j d hj).1
              obtain ⟨cap', hcap', hrun⟩ := run1 _ len cap olds ex (by omega) c2 c3 hold
              have rd : R P μ (hset h bb none) w.drew := (r.sub (fun c oc hc => by
                by_cases e : c = bb
                · subst e; simp [hset] at hc
                · simpa [hset, e] using hc)).eqv rfl
              have hsub : St P μ h w μ (hset h bb none) w.drew := ((St.refl r).sub (fun c oc hc => by
                by_cases e : c = bb
                · subst e; simp [hset] at hc
                · simpa [hset, e] using hc)).eqv (eqv_drew w)
              have hodl := ov.len
              have hboth : ∀ d ∈ olds ++ ds, d.oneCell' = true := fun d hd => by
                rcases List.mem_append.1 hd with hd | hd
                · obtain ⟨j, hj⟩ := List.mem_iff_getElem?.1 hd
                  exact (oc j d hj).2
                · exact hflat d hd
              obtain ⟨b', μ', hb', p1, p2, p3⟩ := new_cells (w := w.drew) rd (ov.append hdv) hboth (olds.toArray ++ ds.toArray ++ Builtin.zeroCells zds.toArray (cap' - (len + k))) e (0, 0) (Builtin.zeroCells zds.toArray (cap' - (len + k))).toList (by simp) (fun j _ hj => by simp at hj)
              have hbne : b' ≠ bb := fun e => by subst e; rw [hL] at p2; cases p2
              have hhb' : h b' = none := by simpa [hset, hbne] using p1
              refine ⟨_, _, _, _, μ', _, val_of hrun, .inl rfl, c4 b' hbne hhb', .sl (o' := 0) hb' (fun _ => rfl) hcap' ?_ hp, St.trans hsub p3⟩
              simp [Builtin.zeroCells, ← hdl, hnl, ← hzv.len, ol]
              rw [← Nat.add_mul, ← Nat.add_mul]
              exact Nat.mul_le_mul_right _ (by omega)
end Mir
