/- From the mirror to the row: laws without memory among the arguments, and laws with slices, that lie in the mirror's memory, to be read alone. -/
import Derived.Test.YtijipnkdabdioabGreatDoorP
import Derived.Test.YtijipnkdabdioabGreatDoorMir31
import Derived.ProofKit
set_option linter.unusedSimpArgs false
set_option linter.unusedVariables false
namespace Go.Proofs.YtijipnkdabdioabGreatDoor
open Mir Go.ChangeShapes Go.WideShapes Go.ChangeAt Go.RowKit
theorem law_calls {f : Nat} {g : Mir.Fn} (hg : pg.fns f = some g) {args : List V} {args' : List Value} (hv : ∀ μ, VRs μ args args') (hA : AC pg (.fn f) args (fun _ => none) fun v _ => v = .bool true) (w : World) :
    Calls Tryz.prog f args'.toArray w fun e w' => e = .returned (.bool true) ∧ Below w.heap.size w w' := by
  have r : R Tryz.prog (fun i => if i < Tryz.prog.globals.size then some ⟨i, 0, 0⟩ else none) (fun _ => none) w :=
    ⟨⟨Tryz.prog.globals.size, fun b hb => if_neg (Nat.not_lt.2 hb)⟩, fun b o hb => by (cases hb), fun b b' o o' L L' hb => by (cases hb), fun i hi => ⟨0, if_pos hi⟩, fun b o L x hb => by (cases hb)⟩
  refine (calls_of pg_ok hg hA (hv _) r).mono fun e w' ⟨d, he, v, h', μ', hq, hd, st⟩ => ?_
  subst hq
  rw [hd.bool_inv] at he
  refine ⟨he, st.os, st.tape, st.output, st.size, fun k hk => st.kept k hk ?_⟩
  rintro ⟨b, o, L, hb, _⟩
  cases hb
section
variable {H : Type} {enc : TypeId × Value → H} {P : Program}
theorem post_of_plain {f : Func} {s : ChangeSpec} {apart fresh handsOn again : Bool} {W W' : World} {args : Array Value} {v : Value} {ds gs : List (DataW H)}
    (hW : DataW.Whole enc P f.params.toList s.vars apart W args.toList ds gs [])
    (hres : ∀ (b : Nat) (sp : Nat → Bool) (hd : Bool), DataW.TrodAll enc P W' b sp hd f.resultTypes.toList (v.resultList f.resultTypes.size) (s.fn H (ds ++ gs)).results [])
    (hargs : ∀ sp : Nat → Bool, DataW.TrodAll enc P W' 0 sp true f.params.toList args.toList (s.fn H (ds ++ gs)).args [])
    (hvars : ∀ sp : Nat → Bool, DataW.TrodVars enc P W' sp s.vars (s.fn H (ds ++ gs)).vars [])
    (hb : Below W.heap.size W W')
    (hok : ∀ (j : Nat) (t : TypeId) (r : Value), f.resultTypes[j]? = some t → (v.resultList f.resultTypes.size)[j]? = some r → Value.okWide P W' .any 0 t r) :
    s.post enc P f apart fresh handsOn again W args v W' := by
  refine ⟨ds, gs, [], [], [], [], hW, hres _ _ _, hargs _, hvars _, hb.frame _, fun _ => ?_⟩
  refine ⟨hok, _, _, ([] ++ []) ++ [], ⟨[] ++ [], [], trodAll_append (hargs _) (hres _ _ _), hvars _, rfl, ?_, ?_⟩, ?_⟩
  · intro b off hp; simp at hp
  · intro _; simp
  · intro p hp; simp at hp
end
theorem Tryz.own : ownKnob Tryz.prog.godebug = none := by kernel_rfl
end Go.Proofs.YtijipnkdabdioabGreatDoor
namespace Go.Proofs.YtijipnkdabdioabGreatDoor
open Mir Go.ChangeShapes Go.WideShapes Go.ChangeAt Go.RowKit
abbrev Piece := Mir.Loc × Option (List V)
def PieceOk (w : World) (p : Piece) : Prop := ∀ cs, p.2 = some cs → ∃ c el fr, w.heap[p.1.B]? = some (.cells c el fr) ∧ c.size = p.1.n ∧ p.1.s + cs.length ≤ p.1.n ∧
  ∀ i v, cs[i]? = some v → ∃ d, c[p.1.s + i]? = some d ∧ (∀ μ, VR μ v d) ∧ d.oneCell' = true
/-- The pieces that lie there are numbered 2 * G, 2 * G + 2 .. -/
def pieceAt (G : Nat) (ps : List Piece) (b : Nat) : Option Piece := if b < 2 * G ∨ b % 2 = 1 then none else ps[b / 2 - G]?
def muOf (G : Nat) (ps : List Piece) : Mu := fun b => if b < G then some ⟨b, 0, 0⟩ else (pieceAt G ps b).map (·.1)
def hOf (G : Nat) (ps : List Piece) : H := fun b => if b < G then none else (pieceAt G ps b).bind fun p => p.2.map fun cs => .cells cs true
theorem pieceAt_at {G i : Nat} {ps : List Piece} {p : Piece} (h : ps[i]? = some p) : pieceAt G ps (2 * (G + i)) = some p := by
  unfold pieceAt
  rw [if_neg (by omega), show 2 * (G + i) / 2 - G = i by omega, h]
theorem muOf_at {G i : Nat} {ps : List Piece} {L : Mir.Loc} {o : Option (List V)} (h : ps[i]? = some (L, o)) : muOf G ps (2 * (G + i)) = some L := by
  unfold muOf
  rw [if_neg (by omega), pieceAt_at h]; rfl
theorem hOf_at {G i : Nat} {ps : List Piece} {L : Mir.Loc} {o : Option (List V)} (h : ps[i]? = some (L, o)) : hOf G ps (2 * (G + i)) = o.map fun cs => .cells cs true := by
  unfold hOf
  rw [if_neg (by omega), pieceAt_at h]; rfl
theorem R_pieces {P : Program} {w : World} {ps : List Piece} (hok : ∀ p ∈ ps, PieceOk w p) : R P (muOf P.globals.size ps) (hOf P.globals.size ps) w := by
  refine ⟨⟨2 * (P.globals.size + ps.length), fun b hb => ?_⟩, fun b o hb => ?_, fun b b' o o' L L' hb hb' hne h1 h2 hro => ?_, fun g hg => ⟨0, if_pos hg⟩, fun b o L x hb hB => ?_⟩
  · unfold muOf pieceAt
    rw [if_neg (by omega)]
    split
    · rfl
    · rw [List.getElem?_eq_none (by omega)]; rfl
  · unfold hOf at hb
    split at hb
    · cases hb
    · rename_i hG
      cases hp : pieceAt P.globals.size ps b with
      | none => rw [hp] at hb; cases hb
      | some p =>
        rw [hp] at hb
        cases h2 : p.2 with
        | none => rw [Option.bind_some, h2] at hb; cases hb
        | some cs =>
          rw [Option.bind_some, h2, Option.map_some, Option.some.injEq] at hb
          subst hb
          have hm : p ∈ ps := by
            unfold pieceAt at hp
            split at hp
            · cases hp
            · exact List.mem_of_getElem? hp
          obtain ⟨c, el, fr, e1, e2, e3, e4⟩ := hok p hm cs h2
          refine ⟨p.1, _, by unfold muOf; rw [if_neg hG, hp]; rfl, e1, c, el, fr, rfl, e2, e3, fun i v hv => ?_, fun h => by cases h⟩
          obtain ⟨d, d1, d2, d3⟩ := e4 i v hv
          exact ⟨d, d1, d2 _, d3⟩
  · exfalso
    unfold hOf at hb
    split at hb
    · cases hb
    · cases hp : pieceAt P.globals.size ps b with
      | none => rw [hp] at hb; cases hb
      | some p =>
        rw [hp] at hb
        cases h2 : p.2 with
        | none => rw [Option.bind_some, h2] at hb; cases hb
        | some cs =>
          rw [Option.bind_some, h2, Option.map_some, Option.some.injEq] at hb
          subst hb; cases hro
  · exfalso
    unfold hOf pieceAt at hb
    rw [if_pos (Or.inr hB.1)] at hb
    split at hb <;> cases hb
theorem hOf_ro {G : Nat} {ps : List Piece} {b : Nat} {o : AObj} (hb : hOf G ps b = some o) : o.ro = true := by
  unfold hOf at hb
  split at hb
  · cases hb
  · cases hp : pieceAt G ps b with
    | none => rw [hp] at hb; cases hb
    | some p =>
      rw [hp] at hb
      cases h2 : p.2 with
      | none => rw [Option.bind_some, h2] at hb; cases hb
      | some cs => rw [Option.bind_some, h2, Option.map_some, Option.some.injEq] at hb; subst hb; rfl
theorem law_calls2 {f : Nat} {g : Mir.Fn} (hg : pg.fns f = some g) {args : List V} {args' : List Value} {w : World} {ps : List Piece} (hok : ∀ p ∈ ps, PieceOk w p) (hv : VRs (muOf Tryz.prog.globals.size ps) args args')
    (hA : AC pg (.fn f) args (hOf Tryz.prog.globals.size ps) fun v _ => v = .bool true) :
    Calls Tryz.prog f args'.toArray w fun e w' => e = .returned (.bool true) ∧ Below w.heap.size w w' := by
  refine (calls_of pg_ok hg hA hv (R_pieces hok)).mono fun e w' ⟨d, he, v, h', μ', hq, hd, st⟩ => ?_
  subst hq
  rw [hd.bool_inv] at he
  refine ⟨he, st.os, st.tape, st.output, st.size, fun k hk => st.kept k hk ?_⟩
  rintro ⟨b, o, L, hb, hro, _⟩
  rw [hOf_ro hb] at hro; cases hro
section
variable {H : Type} {enc : TypeId × Value → H} {P : Program}
theorem post_of_below {f : Func} {s : ChangeSpec} {apart fresh handsOn again : Bool} {W W' : World} {args : Array Value} {v : Value} {ds gs : List (DataW H)} {before pa pv : List MemPlace}
    (hW : DataW.Whole enc P f.params.toList s.vars apart W args.toList ds gs before)
    (hres : ∀ (b : Nat) (sp : Nat → Bool) (hd : Bool), DataW.TrodAll enc P W' b sp hd f.resultTypes.toList (v.resultList f.resultTypes.size) (s.fn H (ds ++ gs)).results [])
    (hargs : ∀ sp : Nat → Bool, (∀ p ∈ before, sp p.block = true) → DataW.TrodAll enc P W' 0 sp true f.params.toList args.toList (s.fn H (ds ++ gs)).args pa)
    (hvars : ∀ sp : Nat → Bool, (∀ p ∈ before, sp p.block = true) → DataW.TrodVars enc P W' sp s.vars (s.fn H (ds ++ gs)).vars pv)
    (hps : before = pa ++ pv) (hb : Below W.heap.size W W')
    (hok : ∀ (j : Nat) (t : TypeId) (r : Value), f.resultTypes[j]? = some t → (v.resultList f.resultTypes.size)[j]? = some r → Value.okWide P W' .any 0 t r) :
    s.post enc P f apart fresh handsOn again W args v W' := by
  have hlt : ∀ p ∈ before, p.block < W.heap.size := fun p hp => hW.lt p hp
  have hold : ∀ p ∈ before, (fun b => decide (b < W.heap.size)) p.block = true := fun p hp => by simpa using hlt p hp
  refine ⟨ds, gs, before, [], pa, pv, hW, hres _ _ _, hargs _ hold, hvars _ hold, hb.frame _, fun _ => ?_⟩
  obtain ⟨_, _, _, _, _, hz, hn⟩ := hW
  refine ⟨hok, _, _, ([] ++ pa) ++ pv, ⟨[] ++ pa, pv, trodAll_append (hargs _ (fun _ _ => rfl)) (hres _ _ _), hvars _ (fun _ _ => rfl), rfl, ?_, ?_⟩, ?_⟩
  · intro b off hp
    have hp' : MemPlace.cell b off ∈ before := by rw [hps]; simpa using hp
    rw [hb.frozen (hlt _ hp')]
    exact hz b off hp'
  · intro ha
    have := hn ha
    rw [hps] at this
    simpa using this
  · intro p hp _
    rw [hps]
    simpa using hp
end
theorem addr_eq {a : Addr} (h : a.spot = none) : a = ⟨a.block, a.off, none⟩ := by cases a; simp at h; subst h; rfl
/-- A slice of texts or numbers among the arguments: where its row lies, and what is read there. -/
theorem open_row {α : Type} {f : α → V} {g : α → Value} {W : World} {P : Program} {t e : TypeId} {base : Nat} {a : Addr} {len cap : Nat} {l : List α} (ht : P.underlying t = some (.slice e)) (hf : ∀ x μ, VR μ (f x) (g x)) (h1 : ∀ x, (g x).oneCell' = true)
    (okw : Value.okWide P W .any base t (.slice (some a) len cap)) (hl : len ≤ cap) (hlen : l.length = cap) (hcell : ∀ i x, l[i]? = some x → W.cell? (a.add i) = some (g x)) (b : Nat) :
    ∃ (L : Mir.Loc) (o : Option (List V)) (v : V), PieceOk W (L, o) ∧ (∀ μ : Mu, μ b = some L → VR μ v (.slice (some a) len cap)) ∧ ∀ h : Mir.H, h b = o.map (fun cs => AObj.cells cs true) → SlAt f h v (l.take len) := by
  have hsp : a.spot = none := by
    simp only [Value.okWide, ht, Cell.okWide, Cell.ok, World.has] at okw
    exact okw.2.2.2.1
  by_cases hc : cap = 0
  · subst hc
    have : len = 0 := by omega
    subst this
    refine ⟨⟨a.block, a.off, a.off⟩, none, .sl b 0 1 0, fun cs h => (by cases h), fun μ hμ => ?_, fun h _ => Or.inl ⟨by simp, Or.inr ⟨b, 0, rfl⟩⟩⟩
    rw [addr_eq hsp]
    have := VR.sl (μ := μ) (b := b) (o := 0) (es := 1) (len := 0) (o' := 0) (cap := 0) hμ (by simp) (by omega) (by simp) (by omega)
    simpa using this
  · have h0 : 0 < l.length := by omega
    have hc0 := hcell 0 l[0] (List.getElem?_eq_getElem h0)
    have hblk : ∃ c el fr, W.heap[a.block]? = some (.cells c el fr) ∧ ∀ i x, l[i]? = some x → c[a.off + i]? = some (g x) := by
      have key : ∀ i, (a.add i) = ⟨a.block, a.off + i, none⟩ := fun i => by
        unfold Addr.add; split
        · rename_i e; subst e; exact addr_eq hsp
        · rfl
      rw [key] at hc0
      unfold World.cell? at hc0
      split at hc0
      · rename_i c el fr e
        refine ⟨c, el, fr, e, fun i x hx => ?_⟩
        have := hcell i x hx
        rw [key] at this
        unfold World.cell? at this
        simp only [e, Option.isSome_none, Bool.false_eq_true, if_false] at this
        exact this
      · cases hc0
    obtain ⟨c, el, fr, hb, hcs⟩ := hblk
    have hsz : a.off + cap ≤ c.size := by
      have := hcs (cap - 1) (l[cap - 1]'(by omega)) (List.getElem?_eq_getElem (by omega))
      have := (Array.getElem?_eq_some_iff.1 this).1
      omega
    refine ⟨⟨a.block, a.off, c.size⟩, some (l.map f), .sl b 0 1 len, fun cs h => ?_, fun μ hμ => ?_, fun h hh => Or.inr ⟨b, 0, len, l.map f, true, rfl, by rw [hh]; rfl, by rw [List.length_map]; omega, by simp [List.map_take]⟩⟩
    · simp only [Option.some.injEq] at h
      subst h
      refine ⟨c, el, fr, hb, rfl, by show a.off + (l.map f).length ≤ c.size; rw [List.length_map]; omega, fun i v hv => ?_⟩
      rw [List.getElem?_map] at hv
      cases hx : l[i]? with
      | none => rw [hx] at hv; cases hv
      | some x => rw [hx, Option.map_some, Option.some.injEq] at hv; subst hv; exact ⟨g x, hcs i x hx, hf x, h1 x⟩
    · rw [addr_eq hsp]
      have := VR.sl (μ := μ) (b := b) (o := 0) (es := 1) (len := len) (o' := 0) (cap := cap) hμ (by simp) hl (by simp; omega) (by omega)
      simpa using this
theorem open_txts {P : Program} {W : World} {t e : TypeId} {base base2 : Nat} {HH : Type} {enc : TypeId × Value → HH} {held : Bool} {v0 : Value} {d0 : DataW HH} {p0 : List MemPlace} (ht : P.underlying t = some (.slice e)) (he : P.underlying e = some .string) (hc : P.cellsOf e = 1)
    (okw : Value.okWide P W .any base t v0) (h0 : DataW.Trod enc P W base2 (fun _ => true) held t v0 d0 p0) (b : Nat) :
    ∃ (L : Mir.Loc) (o : Option (List V)) (v : V) (ss : List Txt), PieceOk W (L, o) ∧ (∀ μ : Mu, μ b = some L → VR μ v v0) ∧ ∀ h : Mir.H, h b = o.map (fun cs => AObj.cells cs true) → SlAt V.str h v ss := by
  obtain ⟨a0, len0, cap0, rfl⟩ := okWide_slice ht okw
  obtain ⟨fuel, hf⟩ := h0
  rcases open_strings ht he hc hf with ⟨hcs, hx⟩ | ⟨a, len, cap, ss, hcs, _, hl, hm, hz, hx, hcell, hsz⟩
  · have e1 : (Value.slice a0 len0 cap0) = .slice none 0 0 := by simpa [Value.cells] using hcs
    rw [e1]
    exact ⟨⟨0, 0, 0⟩, none, .nilsl, [], fun cs h => (by cases h), fun μ _ => .nilsl, fun h _ => SlAt.nil⟩
  · have e1 : (Value.slice a0 len0 cap0) = .slice (some a) len cap := by simpa [Value.cells] using hcs
    rw [e1] at okw ⊢
    simp only [if_true] at hz
    obtain ⟨L, o, v, q1, q2, q3⟩ := open_row (f := fun s : ByteArray => V.str s.data.toList) (g := fun s => Value.string s) (l := ss) ht (fun x μ => (by have := VR.str (μ := μ) x.data.toList; simpa using this)) (fun x => rfl) okw hl hz (fun i x hx => by
      have hi := (List.getElem?_eq_some_iff.1 hx).1
      rw [hcell i hi, List.getD_eq_getElem?_getD, hx]; rfl) b
    refine ⟨L, o, v, (ss.take len).map fun s => s.data.toList, q1, q2, fun h hh => ?_⟩
    rcases q3 h hh with ⟨x, y⟩ | ⟨b, o, n, cs, ro, x1, x2, x3, x4⟩
    · exact Or.inl ⟨by rw [x]; rfl, y⟩
    · exact Or.inr ⟨b, o, n, cs, ro, x1, x2, x3, by rw [x4, List.map_map]; rfl⟩
theorem open_numsB {P : Program} {W : World} {t e : TypeId} {base base2 : Nat} {HH : Type} {enc : TypeId × Value → HH} {held : Bool} {v0 : Value} {d0 : DataW HH} {p0 : List MemPlace} (ht : P.underlying t = some (.slice e)) (he : P.underlying e = some (.int .i64)) (hc : P.cellsOf e = 1)
    (okw : Value.okWide P W .any base t v0) (h0 : DataW.Trod enc P W base2 (fun _ => true) held t v0 d0 p0) (b : Nat) :
    ∃ (L : Mir.Loc) (o : Option (List V)) (v : V) (ss : List Int), PieceOk W (L, o) ∧ (∀ μ : Mu, μ b = some L → VR μ v v0) ∧ (∀ x ∈ ss, -9223372036854775808 ≤ x ∧ x < 9223372036854775808) ∧ ∀ h : Mir.H, h b = o.map (fun cs => AObj.cells cs true) → SlAt (V.int .i64) h v ss := by
  obtain ⟨a0, len0, cap0, rfl⟩ := okWide_slice ht okw
  obtain ⟨fuel, hf⟩ := h0
  rcases open_ints ht he hc hf with ⟨hcs, hx⟩ | ⟨a, len, cap, ss, hcs, _, hl, hm, hz, hx, hcell, hsz⟩
  · have e1 : (Value.slice a0 len0 cap0) = .slice none 0 0 := by simpa [Value.cells] using hcs
    rw [e1]
    exact ⟨⟨0, 0, 0⟩, none, .nilsl, [], fun cs h => (by cases h), fun μ _ => .nilsl, fun x hx => (by cases hx), fun h _ => SlAt.nil⟩
  · have e1 : (Value.slice a0 len0 cap0) = .slice (some a) len cap := by simpa [Value.cells] using hcs
    rw [e1] at okw ⊢
    simp only [if_true] at hz
    obtain ⟨L, o, v, q1, q2, q3⟩ := open_row (f := V.int .i64) (g := fun n => Value.int .i64 n) (l := ss) ht (fun x μ => .int _ _) (fun x => rfl) okw hl hz (fun i x hx => by
      have hi := (List.getElem?_eq_some_iff.1 hx).1
      rw [hcell i hi, List.getD_eq_getElem?_getD, hx]; rfl) b
    refine ⟨L, o, v, ss.take len, q1, q2, fun x hx => ?_, q3⟩
    have := hsz x (List.mem_of_mem_take hx)
    simp only [Lit.wf, Bool.and_eq_true, decide_eq_true_eq] at this
    have h1 := this.1; have h2 := this.2
    simp [IntKind.min, IntKind.bits, IntKind.signed] at h1
    simp [IntKind.max, IntKind.bits, IntKind.signed] at h2
    omega
theorem open_nums {P : Program} {W : World} {t e : TypeId} {base base2 : Nat} {HH : Type} {enc : TypeId × Value → HH} {held : Bool} {v0 : Value} {d0 : DataW HH} {p0 : List MemPlace} (ht : P.underlying t = some (.slice e)) (he : P.underlying e = some (.int .i64)) (hc : P.cellsOf e = 1)
    (okw : Value.okWide P W .any base t v0) (h0 : DataW.Trod enc P W base2 (fun _ => true) held t v0 d0 p0) (b : Nat) :
    ∃ (L : Mir.Loc) (o : Option (List V)) (v : V) (ss : List Int), PieceOk W (L, o) ∧ (∀ μ : Mu, μ b = some L → VR μ v v0) ∧ ∀ h : Mir.H, h b = o.map (fun cs => AObj.cells cs true) → SlAt (V.int .i64) h v ss := by
  obtain ⟨L, o, v, ss, q1, q2, _, q3⟩ := open_numsB ht he hc okw h0 b
  exact ⟨L, o, v, ss, q1, q2, q3⟩
theorem vr_string {μ : Mu} (s : ByteArray) : VR μ (.str s.data.toList) (.string s) := by
  have := VR.str (μ := μ) s.data.toList
  simpa using this
theorem Tryz.laidOut : laidOutB Tryz.prog = true := by kernel_rfl
end Go.Proofs.YtijipnkdabdioabGreatDoor
