/- The mirror, part 13: the copying of maps; all heavy operations but calls. -/
import Derived.Test.YtijipnkdabdioaaMir12
import Derived.Laws.Externs
set_option linter.unusedSimpArgs false
set_option linter.unusedVariables false
namespace Mir
open Go
variable {P : Program} {μ : Mu} {h : H} {w : World} {n : Nat} {ρ : Opd → V} {ρ' : Operand → Value} {v : V}

theorem noNext_none {fn : Func} (h : noNext fn = true) : Extern.findNext fn = none := by
  simp only [noNext, Bool.and_eq_true, Option.isNone_iff_eq_none] at h
  simp only [Extern.findNext, h.1, h.2, Option.map_none]
  rfl
theorem find_clone {fn : Func} (h : fn.name = "maps.clone") : Extern.find fn = some Extern.MapsClone.clone := by
  have e1 : List.lookup "maps.clone" Extern.allGenericRows = none := by rfl
  have e2 : List.lookup "maps.clone" Extern.allTypedRows = none := by rfl
  have e3 : List.lookup "maps.clone" Extern.allRows = some Extern.MapsClone.clone := by rfl
  simp only [Extern.find, h, e1, e2, e3, Option.map_none]
  rfl

theorem clone_sound {f : FuncId} {fn : Func} {x : Operand} {a : Opd} (hρ : Rho P n μ ρ ρ') (r : R P μ h w) (hf : P.funcs[f]? = some fn) (hb : fn.body.isNone = true) (hn : fn.name = "maps.clone") (hno : noNext fn = true)
    (h1 : cOpd P n x = some a) {Q : V → H → Prop} {call : CP} (hE : HK.E call ρ h Q (.clone a)) : Done P μ h w (callFunc f #[ρ' x]) Q := by
  have hx := rho1 hρ h1
  simp only [HK.E] at hE
  cases ha : ρ a <;> simp only [ha] at hE <;> (try exact hE.elim)
  rename_i t v
  cases v <;> simp only at hE <;> (try exact hE.elim)
  rename_i b
  rw [ha] at hx
  cases hm : h b with
  | none => simp [hm] at hE
  | some om =>
    cases om <;> simp only [hm] at hE <;> (try exact hE.elim)
    rename_i es clock
    generalize hd : ρ' x = d at hx
    cases hx with
    | iface hx =>
      cases hx with
      | map hL =>
        rename_i L
        obtain ⟨L', X, eL, hX, ents, rfl, hents⟩ := r.at_ b _ hm
        rw [hL] at eL; cases eL
        obtain ⟨c, hc1, hc2, _, hst⟩ := St.new r (.map ents clock) (.map es clock) 0 (fun c hc => ⟨ents, rfl, hents.imp fun _ _ ⟨p, q, s⟩ => by
          have hle : μ.le (fun i => if i = c then some ⟨w.heap.size, 0, 0⟩ else μ i) := fun b L e => by
            have : b ≠ c := fun e' => by subst e'; rw [hc] at e; cases e
            simp [this, e]
          exact ⟨p.mono hle, q.mono hle, s⟩⟩)
        refine ⟨.value (.iface t (.map (some w.heap.size))), .iface t (.map c), .iface t (.map (some w.heap.size)), _, _, w.alloc (.map ents clock), ?_, .inl rfl, hE c hc2, .iface (.map (L := ⟨w.heap.size, 0, 0⟩) (by simp)), hst⟩
        rw [run_callFunc_extern hf (by rw [hn]; rfl) hb (noNext_none hno) (find_clone hn)]
        have e : Extern.MapsClone.clone #[.iface t (.map (some L.B))] = (getObj L.B >>= fun o => match o with
          | .map entries clock => (newObj (.map entries clock) >>= fun n => pure (.iface t (.map (some n))))
          | _ => stuck "maps.clone: a map expected") := rfl
        rw [e]
        simp only [Sem.run_bind, run_getMap hX, Result.andThen_ok]
        rfl

theorem exec_builtin (ρ' : Operand → Value) (dst : Option Tmp) (b : Builtin) (args : Array Operand) (ts : Array TypeId) (type : TypeId) (pos : String) (after : Array Edge) (guard : Option (Nat × Bool)) :
    ∃ consts, execOp ρ' ⟨dst, .call ⟨.builtin b, args, ts⟩, type, pos, after, guard⟩ = builtin b ts type consts (args.map ρ') := by
  refine ⟨args.map fun | .const _ => true | _ => false, ?_⟩
  simp only [execOp, resolve]
  rfl
/-- The calls. -/
def HK.plain : HK → Bool
  | .call _ _ | .dfr _ _ => false
  | _ => true

theorem hk_sound {op : Op} {k : HK} (hc : cOp P n op = some (.h k)) (hρ : Rho P n μ ρ ρ') (r : R P μ h w) (hp : k.plain = true) {Q : V → H → Prop} {call : CP} (hE : k.E call ρ h Q) (o : Oper) (ho : o.op = op) (hF : ∀ f, ρ' (.func f) = .func (.func f) #[] #[]) :
    Done P μ h w (execOp ρ' o) Q := by
  obtain ⟨dst, op', type, pos, after, guard⟩ := o
  simp only at ho
  subst ho
  cases op' with
  | store t x y =>
    simp only [cOp] at hc
    split at hc
    · rename_i a b s h1 h2 h3
      cases hc
      exact store_sound hρ r h1 h2 h3 hE
    · cases hc
  | insert t m x y =>
    simp only [cOp] at hc
    split at hc
    · rename_i m' k' v' kt et h1 h2 h3 hu
      obtain ⟨kc, hk, e⟩ := Option.map_eq_some_iff.1 hc
      cases e
      exact mapUpd_sound hρ r h1 h2 h3 hu hk hE
    · cases hc
  | mapUpdate t m x y =>
    simp only [cOp] at hc
    split at hc
    · rename_i m' k' v' kt et h1 h2 h3 hu
      obtain ⟨kc, hk, e⟩ := Option.map_eq_some_iff.1 hc
      cases e
      exact mapUpd_sound hρ r h1 h2 h3 hu hk hE
    · cases hc
  | mapEntry t m x =>
    simp only [cOp] at hc
    split at hc
    · rename_i m' k' kt et h1 h2 hu
      split at hc
      · rename_i kc z hk hz
        cases hc
        exact mapEntry_sound hρ r h1 h2 hu hk hz hE
      · cases hc
    · cases hc
  | entryStore t m s x =>
    simp only [cOp] at hc
    split at hc
    · rename_i m' s' v' h1 h2 h3
      cases hc
      exact entryStore_sound hρ r h1 h2 h3 hE
    · cases hc
  | range t x =>
    simp only [cOp] at hc
    split at hc
    · rename_i a kt et h1 hu
      cases hc
      exact range_sound hρ r h1 hu hE
    · rename_i a h1 hu
      cases hc
      exact rangeStr_sound hρ r h1 hu hE
    · cases hc
  | next it s =>
    simp only [cOp] at hc
    obtain ⟨a, h1, e⟩ := Option.map_eq_some_iff.1 hc
    cases s
    · cases e
      exact next_sound hρ r h1 hE
    · cases e
      exact nextStr_sound hρ r h1 hE
  | call c =>
    obtain ⟨cal, args, ts⟩ := c
    simp only [cOp] at hc
    have hargs : (args.map ρ').toList = args.toList.map ρ' := Array.toList_map ..
    split at hc
    · rename_i b
      simp only [cBuiltin] at hc
      have key : ∀ (s : Sem Next), (∀ consts, builtin b ts type consts (args.map ρ') = s) → Done P μ h w s Q → Done P μ h w (execOp ρ' ⟨dst, .call ⟨.builtin b, args, ts⟩, type, pos, after, guard⟩) Q := by
        intro s e hd
        obtain ⟨consts, hx⟩ := exec_builtin ρ' dst b args ts type pos after guard
        rw [hx, e]; exact hd
      split at hc
      · exfalso
        repeat' (first | (cases hc; done) | (obtain ⟨_, _, e⟩ := Option.map_eq_some_iff.1 hc; cases e; done) | split at hc)
      · exfalso
        repeat' (first | (cases hc; done) | (obtain ⟨_, _, e⟩ := Option.map_eq_some_iff.1 hc; cases e; done) | split at hc)
      · exfalso
        repeat' (first | (cases hc; done) | (obtain ⟨_, _, e⟩ := Option.map_eq_some_iff.1 hc; cases e; done) | split at hc)
      · rename_i x y t u tl hA hT
        have a0 : (args.map ρ')[0]? = some (ρ' x) := by rw [← Array.getElem?_toList, hargs, hA]; simp
        have a1 : (args.map ρ')[1]? = some (ρ' y) := by rw [← Array.getElem?_toList, hargs, hA]; simp
        have t0 : ts[0]? = some t := by rw [← Array.getElem?_toList, hT]; simp
        have t1 : ts[1]? = some u := by rw [← Array.getElem?_toList, hT]; simp
        split at hc
        · rename_i a b e d h1 h2 hu hd
          split at hc
          · cases hc
          · rename_i hd'
            simp only [Bool.false_eq_true, if_false] at hc
            split at hc
            · rename_i z i hz hi
              split at hc
              · rename_i hb
                cases hc
                exact key _ (fun _ => rfl) (append_sound hρ r h1 h2 hu hd (fun k e' => hd' k e') hz hi hb.1 hb.2 t0 t1 a0 a1 hE)
              · cases hc
            · cases hc
        · cases hc
      · rename_i x y t tl hA hT
        have a0 : (args.map ρ')[0]? = some (ρ' x) := by rw [← Array.getElem?_toList, hargs, hA]; simp
        have a1 : (args.map ρ')[1]? = some (ρ' y) := by rw [← Array.getElem?_toList, hargs, hA]; simp
        have t0 : ts[0]? = some t := by rw [← Array.getElem?_toList, hT]; simp
        split at hc
        · rename_i a b e h1 h2 hu
          split at hc
          · rename_i s hs
            split at hc
            · rename_i hp'
              cases hc
              exact key _ (fun _ => rfl) (copy_sound hρ r h1 h2 hu hs hp' t0 a0 a1 hE)
            · cases hc
          · cases hc
        · cases hc
      · rename_i x y t tl hA hT
        have a0 : (args.map ρ')[0]? = some (ρ' x) := by rw [← Array.getElem?_toList, hargs, hA]; simp
        have a1 : (args.map ρ')[1]? = some (ρ' y) := by rw [← Array.getElem?_toList, hargs, hA]; simp
        have t0 : ts[0]? = some t := by rw [← Array.getElem?_toList, hT]; simp
        split at hc
        · rename_i a b kt et h1 h2 hu
          obtain ⟨kc, hk, e⟩ := Option.map_eq_some_iff.1 hc
          cases e
          exact key _ (fun _ => rfl) (delete_sound hρ r h1 h2 hu hk t0 a0 a1 hE)
        · cases hc
      · cases hc
    · rename_i f
      split at hc
      · rename_i fn hf
        split at hc
        · rename_i hcl
          split at hc
          · rename_i x hA
            obtain ⟨a, h1, e⟩ := Option.map_eq_some_iff.1 hc
            cases e
            have : args = #[x] := by apply Array.toList_inj.1; rw [hA]
            subst this
            obtain ⟨nx, v, d, h', μ', w', hrun, rest⟩ := clone_sound hρ r hf hcl.1 hcl.2.1 hcl.2.2 h1 hE
            refine ⟨nx, v, d, h', μ', w', ?_, rest⟩
            rw [← hrun]
            simp [execOp, resolve, hF, Deferred.ofValue, invoke]
          · cases hc
        · obtain ⟨_, _, e⟩ := Option.map_eq_some_iff.1 hc
          cases e
          cases hp
      · cases hc
    · split at hc
      · cases hc; cases hp
      · cases hc
    · cases hc
  | defer c =>
    simp only [cOp] at hc
    split at hc
    · split at hc
      · cases hc; cases hp
      · cases hc
    · cases hc
  | makeMap t r => cases r <;> simp only [cOp] at hc <;> cases hc
  | makeFunc f a c => cases f <;> simp only [cOp] at hc <;> (try cases hc; done); split at hc <;> cases hc
  | typeAssert x xt t ok => cases ok <;> simp only [cOp] at hc <;> (try cases hc; done); split at hc <;> cases hc
  | slice t x l hh m => cases m <;> simp only [cOp] at hc <;> repeat' (first | (cases hc; done) | split at hc)
  | _ =>
    exfalso
    simp only [cOp] at hc
    repeat' (first | (cases hc; done) | (obtain ⟨_, _, e⟩ := Option.map_eq_some_iff.1 hc; cases e; done) | split at hc)
end Mir
