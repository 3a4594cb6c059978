/- From the mirror to the row: the start's memory, where variables that hold texts are laid ahead, and one of the library's own holds some number. -/
import Derived.Test.YtipnnfmgecbefaaGreatDoorP
import Derived.Test.YtipnnfmgecbefaaGreatDoorMir31
import Derived.ProofKit
import Derived.SizedLaws
import Derived.HandedShaped
import Derived.ChangeSame
import Derived.ChangeVars
import Derived.ChangeMaps5
import Derived.JoinedOf
import Derived.JoinedAt
import Derived.RowKit
import Derived.RowKit3
import Derived.RowKitTokens
import Derived.LaidLaws
import Derived.SliceStrings
import Derived.Lib.LaidTab
import Derived.Shelf.Vars
import Derived.Stop.LaidErr
import Derived.SevenTiedAt
import Derived.Test.YtipnnfmgecbefaaGreatDoorTie
import Derived.Test.YtipnnfmgecbefaaGreatDoorCards
set_option linter.unusedSimpArgs false
set_option linter.unusedVariables false
namespace Go.Proofs.YtipnnfmgecbefaaGreatDoor
open Mir Go.ChangeShapes Go.WideShapes Go.ChangeAt Go.RowKit
/-- The wrap, the world's shape kept. -/
theorem handed_shaped {H : Type} {enc : TypeId × Value → H} {a : Assume} {C : Checked} {os : Os} {f : FuncId} {fn : Func} {s : ChangeSpec} {conds : List PathCond} {apart fresh handsOn again : Bool} {X : World → Array Value → Prop}
    (hX : ∀ (w w' : World) (args : Array Value), w.heap = w'.heap → X w args → X w' args)
    (own : ownKnob C.prog.godebug = none) (started : os.Started) (noInit : C.prog.inits.idxOf? f = none) (hfn : C.prog.funcs[f]? = some fn)
    (witness : ∃ (w : World) (tape : Tape) (i : Input), w.os = os ∧ (w.forCall tape i).Shaped C.prog ∧ i.vars = [] ∧ Input.okWide C.prog (w.forCall tape i) .any w.heap.size f i ∧
      ((s.pre enc C.prog fn conds apart (w.forCall tape i).memory i.args ∧ X (w.forCall tape i).memory i.args) ∧ sizedMet enc C.prog fn (OpenSpec.ofChange s) apart (w.forCall tape i).memory i.args) ∧ a.holds C.prog (lone (Frame.enter C.prog f i.args .normal) [] (w.forCall tape i)))
    (contract : ∀ (W : World) (base : Nat) (args : Array Value) (ds gs : List (DataW H)) (before : List MemPlace),
      (∀ (j : Nat) t v, fn.params[j]? = some t → args[j]? = some v → Value.okWide C.prog W .any base t v) →
      DataW.Whole enc C.prog fn.params.toList s.vars apart W args.toList ds gs before →
      conds.all (PathCond.test C.prog ⟨fn.params.toList, ds, s.plain.varTypes C.prog, gs⟩) = true →
      X W args → W.ShapedOpen C.prog →
      Calls C.prog f args W fun e W' => ∃ v, e = .returned v ∧ s.post enc C.prog fn apart fresh handsOn again W args v W') :
    ReturnsInHanded a C os f .any (fun w args => (s.pre enc C.prog fn conds apart w args ∧ X w args) ∧ sizedMet enc C.prog fn (OpenSpec.ofChange s) apart w args) (s.post enc C.prog fn apart fresh handsOn again) := by
  refine returnsInHanded_of_calls own started noInit witness ?_
  intro w tape i _ hsh _ hok hpre hholds
  obtain ⟨_, _, _, fn', hfn', _, _, _, _, hval⟩ := hok
  have e : fn' = fn := Option.some.inj (hfn'.symm.trans hfn)
  subst e
  obtain ⟨⟨⟨ds, gs, before, hw, hc⟩, hx⟩, hz⟩ := hpre
  have hw' := DataW.Whole.of_heap (w' := w.forCall tape i) (by rfl) hw
  refine (contract (w.forCall tape i) w.heap.size i.args ds gs before hval hw' hc (hX _ _ _ (by rfl) hx) hsh).mono fun e W' ⟨v, he, hp⟩ => ?_
  subst he
  exact ChangeSpec.post_blind hp
theorem addr_eq {a : Addr} (h : a.spot = none) : a = ⟨a.block, a.off, none⟩ := by cases a; simp at h; subst h; rfl
theorem heap_of_var? {P : Program} {W : World} {n : String} {g : Nat} {cs : Array Value} (hg : P.globalNamed n = some g) (h : W.var? P n = some cs) : ∃ t fr, W.heap[g]? = some (.cells cs t fr) := by
  unfold World.var? at h
  rw [hg, Option.bind_some] at h
  cases hx : W.heap[g]? with
  | none => simp [hx] at h
  | some o =>
    cases o with
    | cells c t fr => simp [hx] at h; subst h; exact ⟨t, fr, rfl⟩
    | _ => simp [hx] at h
/-- Where a row of texts lies, and what holds it. -/
structure TextsAt (W : World) (g : Nat) (ss : List (List UInt8)) (L : Mir.Loc) : Prop where
  row : ∃ c el fr, W.heap[L.B]? = some (.cells c el fr) ∧ c.size = L.n ∧ L.s + ss.length ≤ L.n ∧ ∀ i s, ss[i]? = some s → c[L.s + i]? = some (.string ⟨s.toArray⟩)
  var : ∃ v t fr, W.heap[g]? = some (.cells #[v] t fr) ∧ v.oneCell' = true ∧ ∀ (μ : Mu) (b : Nat), μ b = some L → VR μ (.sl b 0 1 ss.length) v
theorem laid_texts {P : Program} {W : World} {n : String} {ss : List (List UInt8)} {r : List (String × DataW Unit)} {g : Nat} {t e : TypeId} {zero : Array Value}
    (h : laidMet P ((n, .slice (ss.map fun s => .lit (.string s)) []) :: r) W) (hsh : W.ShapedOpen P) (hg : P.globalNamed n = some g) (ht : (P.globals[g]?).map (·.type) = some t) (hu : P.underlying t = some (.slice e)) (he : P.underlying e = some .string) (hce : P.cellsOf e = 1)
    (hlt : g < P.globals.size) (h0 : ((begin P (fun _ _ => 0) default).world.heap[g]?).bind Obj.row? = some (zero, t)) (hz : zero.size = 1) (hb : P.buildable t = true) (hc : P.cellTypes P.depth t = some [t]) (hss : ss ≠ []) : ∃ L, TextsAt W g ss L := by
  obtain ⟨ps, ⟨g0, t0, cs0, f0, p0, q0, hg0, ht0, hv0, hd0, _, e0⟩, _, hrows⟩ := h
  obtain rfl := Option.some.inj (hg.symm.trans hg0)
  obtain rfl := Option.some.inj (ht.symm.trans ht0)
  obtain ⟨t', fr', hh⟩ := heap_of_var? hg hv0
  rcases open_strings hu he hce hd0 with ⟨hcs, hx⟩ | ⟨a, len, cap, xs, hcs, _, hl, hm, hlen, hx, hcell, hsz⟩
  · have := congrArg Prod.fst hx; cases this
  · simp only [if_true] at hlen
    have hx1 := congrArg Prod.fst hx
    simp only [DataW.slice.injEq] at hx1
    obtain ⟨hx1, hx2⟩ := hx1
    have hcl : cap = len := by
      have := congrArg List.length hx2
      simp only [strs, List.length_map, List.length_nil, List.length_drop] at this
      omega
    subst hcl
    have hxs : xs.map (fun s => s.data.toList) = ss := by
      rw [List.take_of_length_le (by omega)] at hx1
      have := congrArg (List.map fun (d : DataW Unit) => match d with | .lit (.string s) => s | _ => []) hx1
      simp only [strs, List.map_map] at this
      simpa [Function.comp_def] using this.symm
    have hsl : ss.length = xs.length := by rw [← hxs]; simp
    obtain ⟨cs, hh2, hs2, hr2⟩ := hsh.1 g zero t hlt h0
    rw [hh] at hh2
    simp only [Option.some.injEq, Obj.cells.injEq] at hh2
    obtain ⟨rfl, _, _⟩ := hh2
    obtain ⟨ts, hts, _, hall⟩ := hr2 hb
    rw [hc] at hts; cases hts
    have hcs' : cs0 = #[.slice (some a) cap cap] := by apply Array.toList_inj.1; rw [hcs]
    subst hcs'
    obtain ⟨u, hu', hok⟩ := hall 0 (.slice (some a) cap cap) rfl
    have : u = t := by simpa using hu'.symm
    subst this
    have hsp : a.spot = none := by
      simp only [Cell.ok, hu, World.has] at hok
      exact hok.2.2.2.1
    have hpos : 0 < xs.length := by rw [← hsl]; exact List.length_pos_iff.2 hss
    have key : ∀ i, (a.add i) = ⟨a.block, a.off + i, none⟩ := fun i => by
      unfold Addr.add; split
      · rename_i e; subst e; exact addr_eq hsp
      · rfl
    have hblk : ∃ c el fr, W.heap[a.block]? = some (.cells c el fr) ∧ ∀ i, i < xs.length → c[a.off + i]? = some (.string (xs.getD i ByteArray.empty)) := by
      have hc0 := hcell 0 hpos
      rw [key] at hc0
      unfold World.cell? at hc0
      split at hc0
      · rename_i c el fr e
        refine ⟨c, el, fr, e, fun i hi => ?_⟩
        have := hcell i hi
        rw [key] at this
        unfold World.cell? at this
        simp only [e, Option.isSome_none, Bool.false_eq_true, if_false] at this
        exact this
      · cases hc0
    obtain ⟨c, el, fr, hbk, hcs⟩ := hblk
    have hend : a.off + xs.length ≤ c.size := by
      have := hcs (xs.length - 1) (by omega)
      have := (Array.getElem?_eq_some_iff.1 this).1
      omega
    refine ⟨⟨a.block, a.off, c.size⟩, ⟨c, el, fr, hbk, rfl, by show a.off + ss.length ≤ c.size; omega, fun i s hi => ?_⟩, ⟨_, t', fr', hh, rfl, fun μ b hμ => ?_⟩⟩
    · rw [← hxs, List.getElem?_map] at hi
      cases hxi : xs[i]? with
      | none => rw [hxi] at hi; cases hi
      | some x =>
        rw [hxi, Option.map_some, Option.some.injEq] at hi
        have hil := (List.getElem?_eq_some_iff.1 hxi).1
        show c[a.off + i]? = _
        rw [hcs i hil, List.getD_eq_getElem?_getD, hxi, ← hi]
        simp
    · rw [addr_eq hsp]
      have := VR.sl (μ := μ) (b := b) (o := 0) (es := 1) (len := ss.length) (o' := 0) (cap := cap) hμ (by simp) (by omega) (by simp; omega) (by omega)
      have e : ss.length = cap := by omega
      rw [e] at this
      rw [e]
      simpa using this
/-- All that lies there is to be read alone, and numbered below a thousand. -/
theorem R_ro {P : Program} {μ : Mu} {h : H} {w : World} (hfin : ∃ N, ∀ b, N ≤ b → μ b = none) (hglob : ∀ g, g < P.globals.size → ∃ n, μ g = some ⟨g, 0, n⟩)
    (hat : ∀ b o, h b = some o → b < 1000 ∧ o.ro = true ∧ ∃ L x, μ b = some L ∧ w.heap[L.B]? = some x ∧ OR P μ L o x) : R P μ h w := by
  refine ⟨hfin, fun b o hb => (hat b o hb).2.2, fun b b' o o' L L' hb hb' hne h1 h2 hro => ?_, hglob, fun b o L x hb hL hx => ⟨fun hB => ?_, fun hW => ?_⟩⟩
  · rw [(hat b o hb).2.1] at hro; cases hro
  · have := (hat b o hb).1; have := hB.2; omega
  · have := (hat b o hb).1; have := hW.2; omega
theorem law_ro {f : Nat} {g : Mir.Fn} (hg : pg.fns f = some g) {args : List V} {args' : List Value} {μ : Mu} {h : H} {w : World} (hv : VRs μ args args') (hro : ∀ b o, h b = some o → o.ro = true)
    (hA : AC pg (.fn f) args h fun v _ => v = .bool true) (r : R Tryz.prog μ h w) :
    Calls Tryz.prog f args'.toArray w fun e w' => e = .returned (.bool true) ∧ Below w.heap.size w w' := by
  refine (calls_of pg_ok hg hA hv r).mono fun e w' ⟨d, he, v, h', μ', hq, hd, st⟩ => ?_
  subst hq
  rw [hd.bool_inv] at he
  refine ⟨he, st.os, st.tape, st.output, st.size, fun k hk => st.kept k hk ?_⟩
  rintro ⟨b, o, L, hb, hr, _⟩
  rw [hro b o hb] at hr; cases hr
theorem Tryz.own : ownKnob Tryz.prog.godebug = none := by kernel_rfl
section
variable {H : Type} {enc : TypeId × Value → H} {P : Program}
theorem post_of_plain {f : Func} {s : ChangeSpec} {apart fresh handsOn again : Bool} {W W' : World} {args : Array Value} {v : Value} {ds gs : List (DataW H)}
    (hW : DataW.Whole enc P f.params.toList s.vars apart W args.toList ds gs [])
    (hres : ∀ (b : Nat) (sp : Nat → Bool) (hd : Bool), DataW.TrodAll enc P W' b sp hd f.resultTypes.toList (v.resultList f.resultTypes.size) (s.fn H (ds ++ gs)).results [])
    (hargs : ∀ sp : Nat → Bool, DataW.TrodAll enc P W' 0 sp true f.params.toList args.toList (s.fn H (ds ++ gs)).args [])
    (hvars : ∀ sp : Nat → Bool, DataW.TrodVars enc P W' sp s.vars (s.fn H (ds ++ gs)).vars [])
    (hb : Below W.heap.size W W')
    (hok : ∀ (j : Nat) (t : TypeId) (r : Value), f.resultTypes[j]? = some t → (v.resultList f.resultTypes.size)[j]? = some r → Value.okWide P W' .any 0 t r) :
    s.post enc P f apart fresh handsOn again W args v W' := by
  refine ⟨ds, gs, [], [], [], [], hW, hres _ _ _, hargs _, hvars _, hb.frame _, fun _ => ?_⟩
  refine ⟨hok, _, _, ([] ++ []) ++ [], ⟨[] ++ [], [], trodAll_append (hargs _) (hres _ _ _), hvars _, rfl, ?_, ?_⟩, ?_⟩
  · intro b off hp; simp at hp
  · intro _; simp
  · intro p hp; simp at hp
end
end Go.Proofs.YtipnnfmgecbefaaGreatDoor
