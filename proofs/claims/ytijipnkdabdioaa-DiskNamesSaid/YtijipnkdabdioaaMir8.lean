/- The mirror, part 8: operations that make memory. -/
import Derived.Test.YtijipnkdabdioaaMir7
import Derived.Laws.IdiomStrings
set_option linter.unusedSimpArgs false
set_option linter.unusedVariables false
namespace Mir
open Go
variable {P : Program} {μ : Mu} {h : H} {w : World} {n : Nat} {ρ : Opd → V} {ρ' : Operand → Value} {v : V}

theorem zeros_succ (z : List V) (n : Nat) : zeros z (n + 1) = z ++ zeros z n := by simp [zeros, List.replicate_succ]
theorem zeros_vrs {z : List V} {ds : List Value} (hv : VRs μ z ds) (n : Nat) : VRs μ (zeros z n) (List.replicate n ds).flatten := by
  induction n with
  | zero => simp [zeros]; exact .nil
  | succ n ih => rw [zeros_succ, List.replicate_succ, List.flatten_cons]; exact hv.append ih
theorem flatten_get (ds : List Value) (hp : 0 < ds.length) : ∀ (n i : Nat), i < n * ds.length → (List.replicate n ds).flatten[i]? = ds[i % ds.length]?
  | 0, i, h => by simp at h
  | n + 1, i, h => by
    rw [List.replicate_succ, List.flatten_cons]
    rcases Nat.lt_or_ge i ds.length with hi | hi
    · rw [List.getElem?_append_left hi, Nat.mod_eq_of_lt hi]
    · rw [List.getElem?_append_right hi, flatten_get ds hp n (i - ds.length) (by rw [Nat.succ_mul] at h; omega)]
      congr 1
      conv => rhs; rw [show i = (i - ds.length) + ds.length from by omega, Nat.add_mod_right]
theorem range_cells (ds : List Value) (hp : 0 < ds.length) (n : Nat) : ((Array.range (n * ds.length)).map (ds.toArray[· % ds.toArray.size]!)).toList = (List.replicate n ds).flatten := by
  apply List.ext_getElem?
  intro i
  rcases Nat.lt_or_ge i (n * ds.length) with hi | hi
  · rw [flatten_get ds hp n i hi]
    have hm : i % ds.length < ds.length := Nat.mod_lt _ hp
    simp [hi, List.getElem?_eq_getElem hm]
  · rw [List.getElem?_eq_none (by simpa using hi), List.getElem?_eq_none (by simpa using hi)]

theorem range_none : (Array.range 0).map (fun _ => (default : Value)) = #[] := by rw [show Array.range 0 = #[] from rfl]; simp
/-- New cells. -/
theorem new_cells (r : R P μ h w) {cs : List V} {ds : List Value} (hv : VRs μ cs ds) (hone : ∀ d ∈ ds, d.oneCell' = true) (c : Array Value) (el : TypeId) (fr : Nat × Nat) (extra : List Value) (hc : c.toList = ds ++ extra) (hfr : ∀ j, j < c.size → ¬ (fr.1 ≤ j ∧ j < fr.2)) :
    ∃ b μ', μ' b = some ⟨w.heap.size, 0, c.size⟩ ∧ h b = none ∧ μ b = none ∧ St P μ h w μ' (hadd h b (.cells cs false)) (w.alloc (.cells c el fr)) := by
  have hl := hv.len
  have hsz : c.size = ds.length + extra.length := by rw [← Array.length_toList, hc]; simp
  obtain ⟨b, h1, h2, _, h3⟩ := St.new (P := P) r (.cells c el fr) (.cells cs false) c.size fun b hb => by
    refine ⟨c, el, fr, rfl, rfl, ?_, fun i v hi => ?_, fun _ j _ hj => hfr j hj⟩
    · show 0 + cs.length ≤ c.size; omega
    · obtain ⟨d, hd, hr⟩ := hv.get hi
      have hd' : c[0 + i]? = some d := by
        rw [Nat.zero_add, ← Array.getElem?_toList, hc, List.getElem?_append_left (List.getElem?_eq_some_iff.1 hd).1]; exact hd
      refine ⟨d, hd', hr.mono ?_, hone d (List.mem_of_getElem? hd)⟩
      intro b' L' e
      have : b' ≠ b := fun e' => by subst e'; rw [hb] at e; cases e
      simp [this, e]
  exact ⟨b, _, by simp, h2, h1, h3⟩

theorem flats {cs : List V} {ds : List Value} (hv : VRs μ cs ds) (hf : cs.all V.flat = true) : ∀ d ∈ ds, d.oneCell' = true := fun d hd => by
  obtain ⟨a, ha, hr⟩ := hv.mem hd
  exact hr.oneCell (List.all_eq_true.1 hf a ha)
theorem fillIn_flat : ∀ (qs : List (Nat × Nat × Opd)) (c0 c1 : List V), fillIn ρ c0 qs = some c1 → c0.all V.flat = true → c1.all V.flat = true
  | [], c0, c1, hh, h0 => by simp only [fillIn] at hh; cases hh; exact h0
  | (o, s, y) :: qs, c0, c1, hh, h0 => by
    simp only [fillIn] at hh
    split at hh
    · rename_i hcc
      refine fillIn_flat qs _ c1 hh ?_
      rw [List.all_eq_true] at h0 ⊢
      intro x hx
      simp only [List.append_assoc, List.mem_append] at hx
      rcases hx with hx | hx | hx
      · exact h0 x (List.mem_of_mem_take hx)
      · exact List.all_eq_true.1 hcc.2.2 x hx
      · exact h0 x (List.mem_of_mem_drop hx)
    · cases hh
theorem zeros_flat {z : List V} (hz : z.all V.flat = true) (n : Nat) : (zeros z n).all V.flat = true := by
  induction n with
  | zero => simp [zeros]
  | succ n ih => rw [zeros_succ, List.all_append, hz, ih]; rfl
theorem wrap_i64 {i : Int} (h0 : 0 ≤ i) (h1 : i < 9223372036854775808) : IntKind.i64.wrap i = i := by
  simp only [IntKind.wrap, IntKind.bits, IntKind.signed]
  simp only [Bool.true_and, ge_iff_le, decide_eq_true_eq]
  have e1 : (2 : Int) ^ 64 = 18446744073709551616 := by decide
  have e2 : (2 : Int) ^ (64 - 1) = 9223372036854775808 := by decide
  rw [e1, e2]
  have : i % 18446744073709551616 = i := by omega
  rw [this, if_neg (by omega)]
theorem grownCap_ge (w : World) (a b : Nat) (e : TypeId) : a ≤ grownCap w a b e := by
  unfold grownCap Question.cut
  exact Nat.le_add_right _ _

set_option maxHeartbeats 2000000 in
theorem ak_sound {op : Op} {k : AK} (hc : cOp P n op = some (.a k)) (hρ : Rho P n μ ρ ρ') (r : R P μ h w) {x : AObj} {f : Nat → V} (he : k.ev ρ = some (x, f)) (o : Oper) (ho : o.op = op) :
    ∃ d w' μ' b, h b = none ∧ VR μ' (f b) d ∧ (execOp ρ' o).run P w = .ok (.value d) w' ∧ St P μ h w μ' (hadd h b x) w' := by
  obtain ⟨dst, op', type, pos, after, guard⟩ := o
  simp only at ho
  subst ho
  cases op' with
  | alloc e =>
    simp only [cOp] at hc
    obtain ⟨z, hz, hk⟩ := Option.map_eq_some_iff.1 hc
    cases hk
    simp only [AK.ev] at he
    cases he
    obtain ⟨d, ds, hd, hcs, hv, hs, hp, hfl⟩ := zeroCs_sound (μ := μ) hz
    obtain ⟨b, μ', hb, h1, h2, h3⟩ := new_cells (w := w) r hv (flats hv hfl) ds.toArray e (0, 0) [] (by simp) (fun j _ h => by simp at h)
    refine ⟨_, _, μ', b, h1, .ptr hb, ?_, h3⟩
    simp only [execOp]
    refine val_of ?_
    simp [Instr.alloc, hd, newVar, newRow, hcs]
  | box e y =>
    simp only [cOp] at hc
    obtain ⟨a, ha, hk⟩ := Option.map_eq_some_iff.1 hc
    cases hk
    simp only [AK.ev] at he
    split at he
    · rename_i hflat
      cases he
      obtain ⟨ds, hcs, hv⟩ := (rho1 hρ ha).cells hflat
      obtain ⟨b, μ', hb, h1, h2, h3⟩ := new_cells (w := w) r hv (flats hv hflat) ds.toArray e (0, 0) [] (by simp) (fun j _ h => by simp at h)
      refine ⟨_, _, μ', b, h1, .ptr hb, ?_, h3⟩
      simp only [execOp]
      refine val_of ?_
      simp [Instr.box, newVar, newRow, hcs]
    · cases he
  | buildSlice t len ps =>
    simp only [cOp] at hc
    split at hc
    · rename_i e hu
      split at hc
      · rename_i z hz
        split at hc
        · rename_i hlim
          obtain ⟨qs, hq, hk⟩ := Option.map_eq_some_iff.1 hc
          cases hk
          simp only [AK.ev] at he
          obtain ⟨cs, hf, e'⟩ := Option.map_eq_some_iff.1 he
          cases e'
          obtain ⟨d, ds, hd, hcs, hv, hs, hp, hfl⟩ := zeroCs_sound (μ := μ) hz
          have hlen := hv.len
          obtain ⟨es, q1, q2⟩ := fill_sound hρ _ ps.toList qs _ _ cs hq (zeros_vrs hv len) hf
          obtain ⟨b, μ', hb, h1, h2, h3⟩ := new_cells (w := w) r q2 (flats q2 (fillIn_flat qs _ _ hf (zeros_flat hfl len))) es.toArray e (0, 0) [] (by simp) (fun j _ h => by simp at h)
          have hsz : es.toArray.size = len * z.length := by
            have a1 := q2.len
            have a2 : cs.length = len * z.length := by
              have key : ∀ (qs : List (Nat × Nat × Opd)) (c0 c1 : List V), fillIn ρ c0 qs = some c1 → c1.length = c0.length := by
                intro qs
                induction qs with
                | nil => intro c0 c1 hh; simp only [fillIn] at hh; cases hh; rfl
                | cons q qs ih =>
                  intro c0 c1 hh
                  obtain ⟨o, s, y⟩ := q
                  simp only [fillIn] at hh
                  split at hh
                  · rename_i hcc
                    rw [ih _ _ hh]
                    simp
                    omega
                  · cases hh
              rw [key qs _ _ hf]
              simp [zeros]
            simp; omega
          refine ⟨_, _, μ', b, h1, .sl (o' := 0) (cap := len) hb (fun _ => rfl) (Nat.le_refl _) (by rw [hsz]; simp) hp, ?_, h3⟩
          simp only [execOp]
          refine val_of ?_
          simp only [Instr.buildSlice, Sem.run_bind, run_und hu, Result.andThen_ok, run_sizeOf hs]
          rw [if_neg (by rw [show (2:Nat)^24 = 16777216 from by decide]; omega)]
          have hps : (ps.map fun p => (p.1, ρ' p.2)).toList = ps.toList.map fun p => (p.1, ρ' p.2) := Array.toList_map ..
          by_cases h0 : len * z.length = 0
          · have hl0 : len = 0 := by rcases Nat.mul_eq_zero.1 h0 with h | h <;> omega
            subst hl0
            simp at q1
            simp [hps, range_none, q1, newRow]
          · have hcell : (Array.range (len * z.length)).map (ds.toArray[· % ds.toArray.size]!) = (List.replicate len ds).flatten.toArray := by
              apply Array.toList_inj.1
              rw [hlen, range_cells ds (by omega) len]
            simp only [if_neg h0, Sem.run_bind, hd, Result.andThen_ok, Sem.run_pure, hcs, hcell, hps, q1]
            simp [newRow]
        · cases hc
      · cases hc
    · cases hc
  | makeMap t rs =>
    cases rs <;> simp only [cOp] at hc <;> (try cases hc; done)
    cases hc
    simp only [AK.ev] at he
    cases he
    obtain ⟨b, h1, h2, _, h3⟩ := St.new (P := P) r (.map #[] 0) (.map [] 0) 0 fun b hb => ⟨#[], rfl, .nil⟩
    refine ⟨_, _, _, b, h2, .map (L := ⟨w.heap.size, 0, 0⟩) (by simp), ?_, h3⟩
    simp only [execOp]
    refine val_of ?_
    simp [Instr.makeMap]
  | makeSlice t l c =>
    simp only [cOp] at hc
    split at hc
    · rename_i l' c' e h1 h2 hu
      split at hc
      · rename_i z i hz hi
        split at hc
        · rename_i hby
          cases hc
          simp only [AK.ev] at he
          cases hl : ρ l' <;> simp only [hl] at he <;> (try cases he; done)
          rename_i kl nl
          cases hcv : ρ c' <;> simp only [hcv] at he <;> (try cases he; done)
          rename_i kc nc
          cases kl <;> cases kc <;> (try (exfalso; simp at he; done))
          simp only at he
          split at he
          · rename_i hcond
            obtain ⟨c1, c2, c3, c4⟩ := hcond
            cases he
            have e1 := rho1 hρ h1
            have e2 := rho1 hρ h2
            rw [hl] at e1; rw [hcv] at e2
            obtain ⟨d, ds, hd, hcs, hv, hs, hp, hfl⟩ := zeroCs_sound (μ := μ) hz
            have hlen := hv.len
            obtain ⟨b, μ', hb, q1, q2, q3⟩ := new_cells (w := w) r (zeros_vrs hv nc.toNat) (flats (zeros_vrs hv nc.toNat) (zeros_flat hfl _)) (List.replicate nc.toNat ds).flatten.toArray e (0, 0) [] (by simp) (fun j _ h => by simp at h)
            refine ⟨_, _, μ', b, q1, .sl (o' := 0) (cap := nc.toNat) hb (fun _ => rfl) (by omega) (by simp [hlen]) hp, ?_, q3⟩
            simp only [execOp]
            refine val_of ?_
            rw [e1.int_inv, e2.int_inv]
            have w1 : IntKind.i64.wrap nl = nl := wrap_i64 c1 (by omega)
            have w2 : IntKind.i64.wrap nc = nc := wrap_i64 (by omega) (by omega)
            have hbig : ¬ ((i.bytes : Int) * nc > 2 ^ 48) := by
              rw [Int.mul_comm, show (2 : Int) ^ 48 = 281474976710656 from by decide]; omega
            have hti : (typeInfo e).run P w = .ok i w := run_typeInfo_some hi w
            simp only [Instr.makeSlice, Sem.run_bind, run_und hu, Result.andThen_ok, asInt, asIntOf, Sem.run_pure, hti, w1, w2]
            rw [if_neg (by simp; omega)]
            by_cases h0 : nc.toNat * z.length = 0
            · have hl0 : nc.toNat = 0 := by rcases Nat.mul_eq_zero.1 h0 with h | h <;> omega
              simp [run_sizeOf hs, hl0, newRow, range_none]
            · have hrow : (Array.range (nc.toNat * z.length)).map (ds.toArray[· % ds.toArray.size]!) = (List.replicate nc.toNat ds).flatten.toArray := by
                apply Array.toList_inj.1
                rw [hlen, range_cells ds (by omega)]
              simp only [Sem.run_bind, run_askRoom, Result.andThen_ok, run_sizeOf hs, if_neg h0, hd, Sem.run_pure, hcs, hrow]
              simp [newRow]
          · cases he
        · cases hc
      · cases hc
    · cases hc
  | convert s d y =>
    simp only [cOp] at hc
    split at hc
    · cases hc
    · cases hc
    · split at hc <;> cases hc
    · rename_i a e h1 h2 h3
      split at hc
      · rename_i hu8
        cases hc
        simp only [AK.ev] at he
        cases ha : ρ a <;> simp only [ha] at he <;> (try cases he; done)
        rename_i str
        have hv := rho1 hρ h1
        rw [ha] at hv
        cases he
        have hs : (⟨str.toArray⟩ : ByteArray).size = str.length := bytes_size str
        have hbv : VRs μ (bytesIn str) (str.map fun b => Value.int .u8 b.toNat) := All2.map_same str fun x _ => .int _ _
        have r' : R P μ h w.drew := r.eqv rfl
        have hcap := grownCap_ge w (⟨str.toArray⟩ : ByteArray).size 0 e
        have hrow : (bytesRow ⟨str.toArray⟩ (grownCap w (⟨str.toArray⟩ : ByteArray).size 0 e)).toList = (str.map fun b => Value.int .u8 b.toNat) ++ List.replicate (grownCap w (⟨str.toArray⟩ : ByteArray).size 0 e - str.length) (.int .u8 0) := by
          simp [bytesRow, hs]
        have hsz : (bytesRow ⟨str.toArray⟩ (grownCap w (⟨str.toArray⟩ : ByteArray).size 0 e)).size = grownCap w (⟨str.toArray⟩ : ByteArray).size 0 e := by
          rw [← Array.length_toList, hrow]; simp; omega
        obtain ⟨b, μ', hb, q1, q2, q3⟩ := new_cells (w := w.drew) r' hbv (fun d hd => by obtain ⟨c, _, rfl⟩ := List.mem_map.1 hd; rfl) (bytesRow ⟨str.toArray⟩ (grownCap w (⟨str.toArray⟩ : ByteArray).size 0 e)) e ((bytesRow ⟨str.toArray⟩ (grownCap w (⟨str.toArray⟩ : ByteArray).size 0 e)).size, (bytesRow ⟨str.toArray⟩ (grownCap w (⟨str.toArray⟩ : ByteArray).size 0 e)).size + 1) _ hrow (fun j hj h => by simp at h; omega)
        refine ⟨_, _, μ', b, q1, .sl (o' := 0) (cap := grownCap w (⟨str.toArray⟩ : ByteArray).size 0 e) hb (fun _ => rfl) (by omega) (by simp only [hsz]; omega) (by decide), ?_, St.trans ((St.refl r).eqv (eqv_drew w)) q3⟩
        simp only [execOp]
        refine val_of ?_
        rw [hv.str_inv, run_bytes_of_string w s d e _ h2 h3 hu8, hs]
        rfl
      · cases hc
    · cases hc
  | makeFunc f a c => cases f <;> simp only [cOp] at hc <;> (try cases hc; done); split at hc <;> cases hc
  | typeAssert x xt t ok => cases ok <;> simp only [cOp] at hc <;> (try cases hc; done); split at hc <;> cases hc
  | slice t x l hh m => cases m <;> simp only [cOp] at hc <;> repeat' (first | (cases hc; done) | split at hc)
  | call c =>
    obtain ⟨cal, args, ts⟩ := c
    simp only [cOp, cBuiltin] at hc
    repeat' (first | (cases hc; done) | (obtain ⟨_, _, e⟩ := Option.map_eq_some_iff.1 hc; cases e; done) | split at hc)
  | _ =>
    exfalso
    simp only [cOp] at hc
    repeat' (first | (cases hc; done) | (obtain ⟨_, _, e⟩ := Option.map_eq_some_iff.1 hc; cases e; done) | split at hc)
end Mir
