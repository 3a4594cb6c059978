/- The mirror, part 12: maps that are written, iterators; all heavy operations but calls. -/
import Derived.Test.YtijipnkdabdioaaMir11
set_option linter.unusedSimpArgs false
set_option linter.unusedVariables false
namespace Mir
open Go
variable {P : Program} {μ : Mu} {h : H} {w : World} {n : Nat} {ρ : Opd → V} {ρ' : Operand → Value} {v : V}

theorem skip_of {s : Sem Unit} {w' : World} (hs : s.run P w = .ok () w') : (do s; pure Next.skip : Sem Next).run P w = .ok .skip w' := by simp [hs]

theorem mapUpd_sound {t kt et : TypeId} {kc : KC} {m x y : Operand} {m' k' v' : Opd} (hρ : Rho P n μ ρ ρ') (r : R P μ h w) (h1 : cOpd P n m = some m') (h2 : cOpd P n x = some k') (h3 : cOpd P n y = some v')
    (hu : P.underlying t = some (.map kt et)) (hk : keyOf P kt = some kc) {Q : V → H → Prop} {call : CP} (hE : HK.E call ρ h Q (.mapUpd kc m' k' v')) :
    Done P μ h w (do Instr.mapUpdate t (ρ' m) (ρ' x) (ρ' y); pure .skip) Q := by
  have hm := rho1 hρ h1
  have hx := rho1 hρ h2
  have hy := rho1 hρ h3
  simp only [HK.E] at hE
  cases ha : ρ m' <;> simp only [ha] at hE <;> (try exact hE.elim)
  rename_i b
  rw [ha] at hm
  obtain ⟨L, hL, e⟩ := hm.map_inv
  cases hb : h b with
  | none => simp [hb] at hE
  | some ob =>
    cases ob <;> simp only [hb] at hE <;> (try exact hE.elim)
    rename_i es clock
    obtain ⟨hkk, hE⟩ := hE
    obtain ⟨L', X, eL, hX, ents, rfl, hents⟩ := r.at_ b _ hb
    rw [hL] at eL; cases eL
    have hlt : L.B < w.heap.size := (Array.getElem?_eq_some_iff.1 hX).1
    have hck := checkKey_sound hk hx hkk false w
    have hg := run_getMap (P := P) hX
    split at hE
    · rename_i v0 m0 hf
      obtain ⟨j, e', k0, q1, q2, q3, q4, q5, q6, q7⟩ := findKey_some hk hx hents hf w
      have hst := keyStays_sound hk hx q3.1 q4 w
      refine ⟨.skip, .undef, undef, _, μ, _, skip_of (w' := { w with heap := w.heap.setIfInBounds L.B (.map (ents.modify j fun e => { e with key := ρ' x, val := ρ' y }) clock) }) ?_, .inr ⟨rfl, rfl⟩, hE, .undef _, ?_⟩
      · rw [e]
        have q1' : ents[j]? = some e' := by rw [← Array.getElem?_toList]; exact q1
        simp only [Instr.mapUpdate, Sem.run_bind, run_und hu, Result.andThen_ok, hg, hck, q7, q1', Option.map_some, Option.getD_some, hst]
        exact run_setMap hX
      · have hat := at_setObj (o := .map ents clock) hlt (.map (ents.modify j fun e => { e with key := ρ' x, val := ρ' y }) clock)
        refine St.put r hb rfl hL hat.size hat.here hat.else_ hat.rest ⟨_, rfl, ?_⟩
        rw [modify_toList q1, q5]
        exact hents.set j ⟨hx, hy, q3.2.2⟩
    · rename_i hf
      have q7 := findKey_none hk hx hents hf w
      refine ⟨.skip, .undef, undef, _, μ, _, skip_of (w' := { w with heap := w.heap.setIfInBounds L.B (.map (ents.push { key := ρ' x, val := ρ' y, born := clock }) (clock + 1)) }) ?_, .inr ⟨rfl, rfl⟩, hE, .undef _, ?_⟩
      · rw [e]
        simp only [Instr.mapUpdate, Sem.run_bind, run_und hu, Result.andThen_ok, hg, hck, q7]
        exact run_setMap hX
      · have hat := at_setObj (o := .map ents clock) hlt (.map (ents.push { key := ρ' x, val := ρ' y, born := clock }) (clock + 1))
        refine St.put r hb rfl hL hat.size hat.here hat.else_ hat.rest ⟨_, rfl, ?_⟩
        rw [Array.toList_push]
        exact hents.append (.cons ⟨hx, hy, rfl⟩ .nil)
    · exact hE.elim

theorem mapEntry_sound {t kt et : TypeId} {kc : KC} {z : V} {m x : Operand} {m' k' : Opd} (hρ : Rho P n μ ρ ρ') (r : R P μ h w) (h1 : cOpd P n m = some m') (h2 : cOpd P n x = some k')
    (hu : P.underlying t = some (.map kt et)) (hk : keyOf P kt = some kc) (hz : zeroT P et = some z) {Q : V → H → Prop} {call : CP} (hE : HK.E call ρ h Q (.mapEntry kc z m' k')) :
    Done P μ h w (do pure (.value (← Instr.mapEntry t (ρ' m) (ρ' x)))) Q := by
  have hm := rho1 hρ h1
  have hx := rho1 hρ h2
  obtain ⟨zd, hzv, hzr⟩ := zeroT_sound (μ := μ) hz
  simp only [HK.E] at hE
  cases ha : ρ m' <;> simp only [ha] at hE <;> (try exact hE.elim)
  rename_i b
  rw [ha] at hm
  obtain ⟨L, hL, e⟩ := hm.map_inv
  cases hb : h b with
  | none => simp [hb] at hE
  | some ob =>
    cases ob <;> simp only [hb] at hE <;> (try exact hE.elim)
    rename_i es clock
    obtain ⟨hkk, hE⟩ := hE
    obtain ⟨L', X, eL, hX, ents, rfl, hents⟩ := r.at_ b _ hb
    rw [hL] at eL; cases eL
    have hlt : L.B < w.heap.size := (Array.getElem?_eq_some_iff.1 hX).1
    have hck := checkKey_sound hk hx hkk false w
    have hg := run_getMap (P := P) hX
    split at hE
    · rename_i v0 m0 hf
      obtain ⟨j, e', k0, q1, q2, q3, q4, q5, q6, q7⟩ := findKey_some hk hx hents hf w
      have hst := keyStays_sound hk hx q3.1 q4 w
      have q1' : ents[j]? = some e' := by rw [← Array.getElem?_toList]; exact q1
      refine ⟨_, _, .tuple #[e'.val, goInt e'.born], _, μ, { w with heap := w.heap.setIfInBounds L.B (.map (ents.modify j fun e => { e with key := ρ' x }) clock) }, val_of ?_, .inl rfl, hE, ?_, ?_⟩
      · rw [e]
        simp only [Instr.mapEntry, Sem.run_bind, run_und hu, Result.andThen_ok, hg, hck, q7, q1', Option.map_some, Option.getD_some, hst, run_setMap (P := P) (es' := ents.modify j fun e => { e with key := ρ' x }) (clock' := clock) hX]
        rfl
      · rw [show m0 = e'.born from q3.2.2]
        exact VR.mkTup (.cons q3.2.1 (.cons (.int _ _) .nil))
      · have hat := at_setObj (o := .map ents clock) hlt (.map (ents.modify j fun e => { e with key := ρ' x }) clock)
        refine St.put r hb rfl hL hat.size hat.here hat.else_ hat.rest ⟨_, rfl, ?_⟩
        rw [modify_toList q1, q5]
        exact hents.set j ⟨hx, q3.2.1, q3.2.2⟩
    · rename_i hf
      have q7 := findKey_none hk hx hents hf w
      refine ⟨_, _, .tuple #[zd, goInt clock], _, μ, { w with heap := w.heap.setIfInBounds L.B (.map (ents.push { key := ρ' x, val := zd, born := clock }) (clock + 1)) }, val_of ?_, .inl rfl, hE, VR.mkTup (.cons hzv (.cons (.int _ _) .nil)), ?_⟩
      · rw [e]
        simp only [Instr.mapEntry, Sem.run_bind, run_und hu, Result.andThen_ok, hg, hck, q7, hzr, run_setMap (P := P) (es' := ents.push { key := ρ' x, val := zd, born := clock }) (clock' := clock + 1) hX]
        rfl
      · have hat := at_setObj (o := .map ents clock) hlt (.map (ents.push { key := ρ' x, val := zd, born := clock }) (clock + 1))
        refine St.put r hb rfl hL hat.size hat.here hat.else_ hat.rest ⟨_, rfl, ?_⟩
        rw [Array.toList_push]
        exact hents.append (.cons ⟨hx, hzv, rfl⟩ .nil)
    · exact hE.elim

theorem findBorn_idx {m : Nat} : ∀ {es : Ents} {ents : List MapEntry}, All2 (EntR μ) es ents → (findBorn m es).isSome = true →
    ∃ j e k0 x0, ents[j]? = some e ∧ es[j]? = some (k0, x0, m) ∧ EntR μ (k0, x0, m) e ∧ ents.findIdx? (fun e => (e.born : Int) == (m : Int)) = some j ∧ ∀ y, setBorn m y es = es.set j (k0, y, m)
  | _, _, .nil, hf => by simp [findBorn] at hf
  | _, _, .cons (a := a) (b := b) h1 h2, hf => by
    obtain ⟨k0, x0, m0⟩ := a
    simp only [findBorn] at hf
    by_cases hm : m0 = m
    · subst hm
      refine ⟨0, b, k0, x0, by simp, by simp, h1, ?_, fun y => by simp [setBorn]⟩
      rw [List.findIdx?_cons]
      simp [show b.born = m0 from h1.2.2.symm]
    · simp only [hm, if_false] at hf
      obtain ⟨j, e, k1, x1, p1, p2, p3, p4, p5⟩ := findBorn_idx h2 hf
      refine ⟨j + 1, e, k1, x1, by simpa using p1, by simpa using p2, p3, ?_, fun y => by simp [setBorn, hm, p5]⟩
      rw [List.findIdx?_cons]
      have : ((b.born : Int) == (m : Int)) = false := by
        have e1 : m0 = b.born := h1.2.2
        simp; omega
      simp [this, p4]

theorem entryStore_sound {t : TypeId} {m s y : Operand} {m' s' v' : Opd} (hρ : Rho P n μ ρ ρ') (r : R P μ h w) (h1 : cOpd P n m = some m') (h2 : cOpd P n s = some s') (h3 : cOpd P n y = some v')
    {Q : V → H → Prop} {call : CP} (hE : HK.E call ρ h Q (.entryStore m' s' v')) : Done P μ h w (do Instr.entryStore t (ρ' m) (ρ' s) (ρ' y); pure .skip) Q := by
  have hm := rho1 hρ h1
  have hs := rho1 hρ h2
  have hy := rho1 hρ h3
  simp only [HK.E] at hE
  cases ha : ρ m' <;> simp only [ha] at hE <;> (try exact hE.elim)
  rename_i b
  rw [ha] at hm
  cases hsv : ρ s' <;> simp only [hsv] at hE <;> (try exact hE.elim)
  rename_i kk nn
  cases kk <;> simp only at hE <;> (try exact hE.elim)
  rw [hsv] at hs
  obtain ⟨L, hL, e⟩ := hm.map_inv
  cases hb : h b with
  | none => simp [hb] at hE
  | some ob =>
    cases ob <;> simp only [hb] at hE <;> (try exact hE.elim)
    rename_i es clock
    obtain ⟨hn0, hfs, hE⟩ := hE
    obtain ⟨L', X, eL, hX, ents, rfl, hents⟩ := r.at_ b _ hb
    rw [hL] at eL; cases eL
    have hlt : L.B < w.heap.size := (Array.getElem?_eq_some_iff.1 hX).1
    have hg := run_getMap (P := P) hX
    obtain ⟨j, e', k0, x0, p1, p2, p3, p4, p5⟩ := findBorn_idx hents hfs
    have p4' : ents.findIdx? (fun e => (e.born : Int) == nn) = some j := by
      rw [show ents = ents.toList.toArray from by simp, List.findIdx?_toArray]
      have : ((nn.toNat : Nat) : Int) = nn := by omega
      rw [this] at p4
      exact p4
    refine ⟨.skip, .undef, undef, _, μ, _, skip_of (w' := { w with heap := w.heap.setIfInBounds L.B (.map (ents.modify j fun e => { e with val := ρ' y }) clock) }) ?_, .inr ⟨rfl, rfl⟩, hE, .undef _, ?_⟩
    · rw [e, hs.int_inv]
      simp only [Instr.entryStore, Sem.run_bind, Result.andThen_ok, hg, asInt, asIntOf, Sem.run_pure, p4']
      exact run_setMap hX
    · have hat := at_setObj (o := .map ents clock) hlt (.map (ents.modify j fun e => { e with val := ρ' y }) clock)
      refine St.put r hb rfl hL hat.size hat.here hat.else_ hat.rest ⟨_, rfl, ?_⟩
      rw [modify_toList p1, p5]
      exact hents.set j ⟨p3.1, hy, p3.2.2⟩

theorem delete_sound {t kt et : TypeId} {kc : KC} {x y : Operand} {m' k' : Opd} {ts : Array TypeId} {args : Array Value} {type : TypeId} (hρ : Rho P n μ ρ ρ') (r : R P μ h w) (h1 : cOpd P n x = some m') (h2 : cOpd P n y = some k')
    (hu : P.underlying t = some (.map kt et)) (hk : keyOf P kt = some kc) (t0 : ts[0]? = some t) (a0 : args[0]? = some (ρ' x)) (a1 : args[1]? = some (ρ' y)) {Q : V → H → Prop} {call : CP} (hE : HK.E call ρ h Q (.delete kc m' k')) :
    Done P μ h w (do pure (.value (← Builtin.delete_ ts type args))) Q := by
  have hm := rho1 hρ h1
  have hx := rho1 hρ h2
  simp only [HK.E] at hE
  cases ha : ρ m' <;> simp only [ha] at hE <;> (try exact hE.elim)
  rename_i b
  rw [ha] at hm
  obtain ⟨L, hL, e⟩ := hm.map_inv
  cases hb : h b with
  | none => simp [hb] at hE
  | some ob =>
    cases ob <;> simp only [hb] at hE <;> (try exact hE.elim)
    rename_i es clock
    obtain ⟨hkk, hE⟩ := hE
    obtain ⟨L', X, eL, hX, ents, rfl, hents⟩ := r.at_ b _ hb
    rw [hL] at eL; cases eL
    have hlt : L.B < w.heap.size := (Array.getElem?_eq_some_iff.1 hX).1
    have hck := fun em => checkKey_sound hk hx hkk em w
    have hg := run_getMap (P := P) hX
    split at hE
    · rename_i ov hf
      cases ov with
      | some p =>
        obtain ⟨v0, m0⟩ := p
        obtain ⟨j, e', k0, q1, q2, q3, q4, q5, q6, q7⟩ := findKey_some hk hx hents hf w
        refine ⟨_, _, .tuple #[], _, μ, { w with heap := w.heap.setIfInBounds L.B (.map (ents.eraseIdxIfInBounds j) clock) }, val_of ?_, .inl rfl, hE, .undef _, ?_⟩
        · simp only [Builtin.delete_, t0, a0, a1, e, Sem.run_bind, run_und hu, Result.andThen_ok, hg, hck, q7, run_setMap (P := P) (es' := ents.eraseIdxIfInBounds j) (clock' := clock) hX]
          rfl
        · have hat := at_setObj (o := .map ents clock) hlt (.map (ents.eraseIdxIfInBounds j) clock)
          refine St.put r hb rfl hL hat.size hat.here hat.else_ hat.rest ⟨_, rfl, ?_⟩
          rw [q6, Array.toList_eraseIdxIfInBounds]
          exact hents.eraseIdx j
      | none =>
        have q7 := findKey_none hk hx hents hf w
        refine ⟨_, _, .tuple #[], _, μ, { w with heap := w.heap.setIfInBounds L.B (.map ents clock) }, val_of ?_, .inl rfl, hE, .undef _, ?_⟩
        · simp only [Builtin.delete_, t0, a0, a1, e, Sem.run_bind, run_und hu, Result.andThen_ok, hg, hck, q7, run_setMap (P := P) (es' := ents) (clock' := clock) hX]
          rfl
        · have hat := at_setObj (o := .map ents clock) hlt (.map ents clock)
          refine St.put r hb rfl hL hat.size hat.here hat.else_ hat.rest ⟨_, rfl, ?_⟩
          rw [(findK_none hf).2]
          exact hents
    · exact hE.elim

/-! ### Iterators -/
theorem St.newIter (r : R P μ h w) (x : Obj) (o : AObj) (ho : ∀ μ' : Mu, μ.le μ' → OR P μ' ⟨w.heap.size, 0, 0⟩ o x) :
    ∃ b μ', μ' b = some ⟨w.heap.size, 0, 0⟩ ∧ h b = none ∧ St P μ h w μ' (hadd h b o) (w.alloc x) := by
  obtain ⟨b, h1, h2, _, h3⟩ := St.new (P := P) r x o 0 fun b hb => ho _ fun c K e => by
    have : c ≠ b := fun e' => by subst e'; rw [hb] at e; cases e
    simp [this, e]
  exact ⟨b, _, by simp, h2, h3⟩
theorem newObj_ok (o : Obj) : (newObj o).run P w = .ok w.heap.size (w.alloc o) := rfl

theorem range_sound {t kt et : TypeId} {x : Operand} {a : Opd} (hρ : Rho P n μ ρ ρ') (r : R P μ h w) (h1 : cOpd P n x = some a) (hu : P.underlying t = some (.map kt et)) {Q : V → H → Prop} {call : CP}
    (hE : HK.E call ρ h Q (.range a)) : Done P μ h w (do pure (.value (← Instr.range t (ρ' x)))) Q := by
  have hx := rho1 hρ h1
  simp only [HK.E] at hE
  cases ha : ρ a <;> simp only [ha] at hE <;> (try exact hE.elim)
  · rename_i b
    rw [ha] at hx
    obtain ⟨L, hL, e⟩ := hx.map_inv
    cases hb : h b with
    | none => simp [hb] at hE
    | some ob =>
      cases ob <;> simp only [hb] at hE <;> (try exact hE.elim)
      rename_i es clock
      obtain ⟨L', X, eL, hX, ents, rfl, hents⟩ := r.at_ b _ hb
      rw [hL] at eL; cases eL
      have hg := run_getMap (P := P) hX
      obtain ⟨b', μ', q1, q2, q3⟩ := St.newIter r (.mapIter (some L.B) clock #[] clock) (.iter (some b) clock [] clock) fun μ' hle => ⟨rfl, _, rfl, L, hle _ _ hL, rfl⟩
      refine ⟨_, _, _, _, μ', _, val_of ?_, .inl rfl, hE b' q2, .ptr q1, q3⟩
      rw [e]
      simp [Instr.range, run_und hu, hg]
  · rw [ha] at hx
    have e : ρ' x = .map none := by generalize ρ' x = q at hx; cases hx; rfl
    obtain ⟨b', μ', q1, q2, q3⟩ := St.newIter r (.mapIter none 0 #[] 0) (.iter none 0 [] 0) fun μ' hle => ⟨rfl, _, rfl, rfl⟩
    refine ⟨_, _, _, _, μ', _, val_of ?_, .inl rfl, hE b' q2, .ptr q1, q3⟩
    rw [e]
    simp [Instr.range, run_und hu]
theorem rangeStr_sound {t : TypeId} {x : Operand} {a : Opd} (hρ : Rho P n μ ρ ρ') (r : R P μ h w) (h1 : cOpd P n x = some a) (hu : P.underlying t = some .string) {Q : V → H → Prop} {call : CP}
    (hE : HK.E call ρ h Q (.rangeStr a)) : Done P μ h w (do pure (.value (← Instr.range t (ρ' x)))) Q := by
  have hx := rho1 hρ h1
  simp only [HK.E] at hE
  cases ha : ρ a <;> simp only [ha] at hE <;> (try exact hE.elim)
  rename_i s
  rw [ha] at hx
  obtain ⟨b', μ', q1, q2, q3⟩ := St.newIter r (.stringIter ⟨s.toArray⟩ 0) (.sit s 0) fun μ' hle => ⟨rfl, rfl⟩
  refine ⟨_, _, _, _, μ', _, val_of ?_, .inl rfl, hE b' q2, .ptr q1, q3⟩
  rw [hx.str_inv]
  simp [Instr.range, run_und hu]
theorem nextStr_sound {x : Operand} {a : Opd} {ty : TypeId} (hρ : Rho P n μ ρ ρ') (r : R P μ h w) (h1 : cOpd P n x = some a) {Q : V → H → Prop} {call : CP}
    (hE : HK.E call ρ h Q (.nextStr a)) : Done P μ h w (do pure (.value (← Instr.next (ρ' x) true ty))) Q := by
  have hx := rho1 hρ h1
  simp only [HK.E] at hE
  cases ha : ρ a <;> simp only [ha] at hE <;> (try exact hE.elim)
  rename_i i o
  cases o with
  | succ o => simp at hE
  | zero =>
    simp only at hE
    rw [ha] at hx
    obtain ⟨L, hL, e⟩ := hx.ptr_inv
    cases hi : h i with
    | none => simp [hi] at hE
    | some oi =>
      cases oi <;> simp only [hi] at hE <;> (try exact hE.elim)
      rename_i s pos
      obtain ⟨L', X, eL, hX, h0, rfl⟩ := r.at_ i _ hi
      rw [hL] at eL; cases eL
      have hlt : L.B < w.heap.size := (Array.getElem?_eq_some_iff.1 hX).1
      have hg : (getObj L.B).run P w = .ok (.stringIter ⟨s.toArray⟩ pos) w := by simp [getObj, Sem.run, hX]
      split at hE
      · rename_i hp
        refine ⟨_, _, .tuple #[.bool true, goInt pos, .int .i32 (Utf8.decode ⟨s.toArray⟩ pos).1], _, μ, { w with heap := w.heap.setIfInBounds L.B (.stringIter ⟨s.toArray⟩ (pos + (Utf8.decode ⟨s.toArray⟩ pos).2)) }, val_of ?_, .inl rfl, hE, VR.mkTup (.cons (.bool _) (.cons (.int _ _) (.cons (.int _ _) .nil))), ?_⟩
        · rw [e, h0]
          have hset : (setObj L.B (.stringIter ⟨s.toArray⟩ (pos + (Utf8.decode ⟨s.toArray⟩ pos).2))).run P w = .ok () { w with heap := w.heap.setIfInBounds L.B (.stringIter ⟨s.toArray⟩ (pos + (Utf8.decode ⟨s.toArray⟩ pos).2)) } := by simp [setObj, Sem.run, hX]
          have hp' : pos < (⟨s.toArray⟩ : ByteArray).size := by rw [bytes_size]; exact hp
          simp only [Instr.next, Sem.run_bind, Nat.zero_add, hg, Result.andThen_ok, hp', if_true]
          rw [show (Utf8.decode ⟨s.toArray⟩ pos) = ((Utf8.decode ⟨s.toArray⟩ pos).1, (Utf8.decode ⟨s.toArray⟩ pos).2) from rfl]
          simp only [Sem.run_bind, hset, Result.andThen_ok, Sem.run_pure]
        · have hat := at_setObj (o := .stringIter ⟨s.toArray⟩ pos) hlt (.stringIter ⟨s.toArray⟩ (pos + (Utf8.decode ⟨s.toArray⟩ pos).2))
          exact St.put r hi rfl hL hat.size hat.here hat.else_ hat.rest ⟨h0, rfl⟩
      · rename_i hp
        refine ⟨_, _, .tuple #[.bool false], _, μ, w, val_of ?_, .inl rfl, hE, VR.mkTup (.cons (.bool _) .nil), St.refl r⟩
        rw [e, h0]
        have hp' : ¬ pos < (⟨s.toArray⟩ : ByteArray).size := by rw [bytes_size]; exact hp
        simp [Instr.next, hg, hp']

theorem All2.filter {α β : Type} {R : α → β → Prop} {as : List α} {bs : List β} (h : All2 R as bs) {p : α → Bool} {q : β → Bool} (hpq : ∀ a b, R a b → p a = q b) : All2 R (as.filter p) (bs.filter q) := by
  induction h with
  | nil => exact .nil
  | cons h1 h2 ih =>
    simp only [List.filter_cons, hpq _ _ h1]
    split
    · exact .cons h1 ih
    · exact ih
def OptR (μ : Mu) : Option (V × V × Nat) → Option MapEntry → Prop
  | none, none => True
  | some e, some m => EntR μ e m
  | _, _ => False
theorem All2.somes {es : Ents} {ents : List MapEntry} (h : All2 (EntR μ) es ents) : All2 (OptR μ) (es.map some) (ents.map some) := by
  induction h with
  | nil => exact .nil
  | cons h1 _ ih => exact .cons h1 ih
theorem cands_sound {es : Ents} {ents : Array MapEntry} (hents : All2 (EntR μ) es ents.toList) (since : Nat) (seen : List Nat) :
    All2 (OptR μ) (candidates es since seen) ((if ((ents.filter fun e => !seen.toArray.contains e.born).filter (·.born < since)).isEmpty then #[none] else #[]) ++ (((ents.filter fun e => !seen.toArray.contains e.born).filter (·.born < since)) ++ ((ents.filter fun e => !seen.toArray.contains e.born).filter (·.born ≥ since))).map some : Array (Option MapEntry)).toList := by
  have hleft : All2 (EntR μ) (es.filter fun e => !seen.contains e.2.2) (ents.filter fun e => !seen.toArray.contains e.born).toList := by
    rw [Array.toList_filter]
    exact hents.filter fun a b hr => by rw [hr.2.2]; simp
  have hold : All2 (EntR μ) ((es.filter fun e => !seen.contains e.2.2).filter fun e => decide (e.2.2 < since)) ((ents.filter fun e => !seen.toArray.contains e.born).filter (·.born < since)).toList := by
    rw [Array.toList_filter]
    exact hleft.filter fun a b hr => by rw [hr.2.2]
  have hnew : All2 (EntR μ) ((es.filter fun e => !seen.contains e.2.2).filter fun e => !decide (e.2.2 < since)) ((ents.filter fun e => !seen.toArray.contains e.born).filter (·.born ≥ since)).toList := by
    rw [Array.toList_filter]
    refine hleft.filter fun a b hr => ?_
    rw [hr.2.2]
    by_cases hb : b.born < since
    · simp [hb]
    · simp [hb]; omega
  unfold candidates
  simp only [Array.toList_append, Array.toList_map]
  refine All2.append ?_ ?_
  · have : ((es.filter fun e => !seen.contains e.2.2).filter fun e => decide (e.2.2 < since)).isEmpty = ((ents.filter fun e => !seen.toArray.contains e.born).filter (·.born < since)).isEmpty := by
      have := hold.len
      rw [Bool.eq_iff_iff, List.isEmpty_iff_length_eq_zero, Array.isEmpty_iff_size_eq_zero, this]
      simp
    simp only [this]
    split
    · exact .cons trivial .nil
    · exact .nil
  · exact (hold.append hnew).somes

theorem all_born {es : Ents} {l : List MapEntry} (h : All2 (EntR μ) es l) (k : Nat) : l.all (fun e => decide (e.born ≥ k)) = es.all (fun e => decide (k ≤ e.2.2)) := by
  induction h with
  | nil => rfl
  | cons hh _ ih =>
    rw [List.all_cons, List.all_cons, ih, hh.2.2]
theorem cands_pos (ents : Array MapEntry) (since : Nat) (seen : Array Nat) : 0 < ((if ((ents.filter fun e => !seen.contains e.born).filter (·.born < since)).isEmpty then #[none] else #[]) ++ (((ents.filter fun e => !seen.contains e.born).filter (·.born < since)) ++ ((ents.filter fun e => !seen.contains e.born).filter (·.born ≥ since))).map some : Array (Option MapEntry)).size := by
  by_cases he : ((ents.filter fun e => !seen.contains e.born).filter (·.born < since)).isEmpty = true
  · rw [if_pos he, Array.size_append]
    show 0 < 1 + _
    omega
  · have : 0 < ((ents.filter fun e => !seen.contains e.born).filter (·.born < since)).size := by
      rcases Nat.eq_zero_or_pos ((ents.filter fun e => !seen.contains e.born).filter (·.born < since)).size with h | h
      · exact absurd (Array.isEmpty_iff_size_eq_zero.2 h) he
      · exact h
    rw [Array.size_append, Array.size_map, Array.size_append]
    omega
theorem next_sound {x : Operand} {a : Opd} {ty : TypeId} (hρ : Rho P n μ ρ ρ') (r : R P μ h w) (h1 : cOpd P n x = some a) {Q : V → H → Prop} {call : CP}
    (hE : HK.E call ρ h Q (.next a)) : Done P μ h w (do pure (.value (← Instr.next (ρ' x) false ty))) Q := by
  have hx := rho1 hρ h1
  simp only [HK.E] at hE
  cases ha : ρ a <;> simp only [ha] at hE <;> (try exact hE.elim)
  rename_i i o
  cases o with
  | succ o => simp at hE
  | zero =>
    simp only at hE
    rw [ha] at hx
    obtain ⟨L, hL, e⟩ := hx.ptr_inv
    cases hi : h i with
    | none => simp [hi] at hE
    | some oi =>
      cases oi <;> simp only [hi] at hE <;> (try exact hE.elim)
      rename_i m since seen stepped
      obtain ⟨L', X, eL, hX, h0, m', rfl, hm'⟩ := r.at_ i _ hi
      rw [hL] at eL; cases eL
      have hlt : L.B < w.heap.size := (Array.getElem?_eq_some_iff.1 hX).1
      have hg : (getObj L.B).run P w = .ok (.mapIter m' since seen.toArray stepped) w := by simp [getObj, Sem.run, hX]
      cases m with
      | none =>
        simp only at hE hm'
        subst hm'
        refine ⟨_, _, .tuple #[.bool false], _, μ, w, val_of ?_, .inl rfl, hE, VR.mkTup (.cons (.bool _) .nil), St.refl r⟩
        rw [e, h0]
        simp [Instr.next, hg]
      | some m =>
        simp only at hE hm'
        obtain ⟨K, hK, rfl⟩ := hm'
        cases hm : h m with
        | none => simp [hm] at hE
        | some om =>
          cases om <;> simp only [hm] at hE <;> (try exact hE.elim)
          rename_i es clock
          obtain ⟨hguard, hall⟩ := hE
          obtain ⟨K', Y, eK, hY, ents, rfl, hents⟩ := r.at_ m _ hm
          rw [hK] at eK; cases eK
          have hg2 := run_getMap (P := P) hY
          have hc := cands_sound hents since seen
          have hlen := hents.len
          have hgu : (!seen.toArray.isEmpty && !ents.isEmpty && ents.all (fun e => decide (e.born ≥ stepped))) = false := by
            rw [← hguard]
            have e1 : seen.toArray.isEmpty = seen.isEmpty := by simp
            have e2 : ents.isEmpty = es.isEmpty := by
              rw [Bool.eq_iff_iff, List.isEmpty_iff_length_eq_zero, Array.isEmpty_iff_size_eq_zero, hlen]; simp
            have e3 : ents.all (fun e => decide (e.born ≥ stepped)) = es.all (fun e => decide (stepped ≤ e.2.2)) := by
              rw [← Array.all_toList]
              exact all_born hents stepped
            rw [e1, e2, e3]
          -- the choice
          generalize hcd : ((if ((ents.filter fun e => !seen.toArray.contains e.born).filter (·.born < since)).isEmpty then #[none] else #[]) ++ (((ents.filter fun e => !seen.toArray.contains e.born).filter (·.born < since)) ++ ((ents.filter fun e => !seen.toArray.contains e.born).filter (·.born ≥ since))).map some : Array (Option MapEntry)) = cd at hc
          have hpos : 0 < cd.size := by
            rw [← hcd]
            exact cands_pos ents since seen.toArray
          obtain ⟨idx, w1, hch, hidx, he1⟩ : ∃ idx w1, (choose (.mapNext cd.size)).run P w = .ok idx w1 ∧ idx < cd.size ∧ Eqv w w1 := by
            rw [run_choose]
            by_cases hf : (Question.mapNext cd.size).forced = true
            · rw [if_pos hf]; exact ⟨0, w, rfl, hpos, rfl, rfl, rfl, rfl⟩
            · rw [if_neg hf]; exact ⟨_, _, rfl, Nat.mod_lt _ hpos, rfl, rfl, rfl, rfl⟩
          obtain ⟨y, hy1, hy2⟩ := hc.getR (i := idx) (b := cd[idx]) (by simp [hidx])
          have hE' := hall y (List.mem_of_getElem? hy1)
          have hget : cd[idx]? = some cd[idx] := Array.getElem?_eq_getElem hidx
          have hrun : (Instr.next (ρ' x) false ty).run P w = (match (some cd[idx] : Option (Option MapEntry)) with
              | some (some e) => (do setObj L.B (.mapIter (some K.B) since (seen.toArray.push e.born) clock); pure (.tuple #[.bool true, e.key, e.val]) : Sem Value)
              | some none => pure (.tuple #[.bool false])
              | none => stuck "Next: no such candidate").run P w1 := by
            rw [e, h0]
            simp only [Instr.next, Sem.run_bind, Nat.add_zero, hg, hg2, Result.andThen_ok]
            rw [if_neg (by rw [Bool.not_eq_true]; exact hgu)]
            simp only [Sem.run_bind, Result.andThen_ok, hcd, hch, hget]
            clear hE' hy2 hget
            generalize cd[idx] = z
            cases z <;> rfl
          generalize cd[idx] = K0 at hy2 hrun
          cases K0 with
          | none =>
            cases y with
            | some y => exact hy2.elim
            | none =>
              simp only at hE'
              exact ⟨_, _, .tuple #[.bool false], _, μ, w1, val_of hrun, .inl rfl, hE', VR.mkTup (.cons (.bool _) .nil), (St.refl r).eqv he1⟩
          | some me =>
            cases y with
            | none => exact hy2.elim
            | some y =>
              simp only at hE'
              have hX1 : w1.heap[L.B]? = some (Obj.mapIter (some K.B) since seen.toArray stepped) := by rw [he1.1]; exact hX
              have hset : (setObj L.B (.mapIter (some K.B) since (seen.toArray.push me.born) clock)).run P w1 = .ok () { w1 with heap := w1.heap.setIfInBounds L.B (.mapIter (some K.B) since (seen.toArray.push me.born) clock) } := by simp [setObj, Sem.run, hX1]
              have r1 : R P μ h w1 := r.eqv he1.1
              have hlt1 : L.B < w1.heap.size := by rw [he1.1]; exact hlt
              have hat := at_setObj (w := w1) (o := .mapIter (some K.B) since seen.toArray stepped) hlt1 (.mapIter (some K.B) since (seen.toArray.push me.born) clock)
              refine ⟨_, _, .tuple #[.bool true, me.key, me.val], _, μ, { w1 with heap := w1.heap.setIfInBounds L.B (.mapIter (some K.B) since (seen.toArray.push me.born) clock) }, val_of ?_, .inl rfl, hE', VR.mkTup (.cons (.bool _) (.cons hy2.1 (.cons hy2.2.1 .nil))), St.trans ((St.refl r).eqv he1) (St.put r1 hi rfl hL hat.size hat.here hat.else_ hat.rest ⟨h0, some K.B, ?_, K, hK, rfl⟩)⟩
              · rw [hrun]
                simp only [Sem.run_bind, hset, Result.andThen_ok, Sem.run_pure]
              · rw [hy2.2.2]; simp
end Mir
