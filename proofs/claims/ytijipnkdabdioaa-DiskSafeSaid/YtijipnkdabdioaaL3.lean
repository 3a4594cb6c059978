/- A slice of deeds among the arguments: where its row lies, and what is read there. -/
import Derived.Test.YtijipnkdabdioaaL
import Derived.Test.YtijipnkdabdioaaD13
set_option linter.unusedSimpArgs false
set_option linter.unusedVariables false
namespace Go.Proofs.Ytijipnkdabdioaa
open Mir Go.ChangeShapes Go.WideShapes Go.ChangeAt Go.RowKit
open Go
def actG (a : ActP) (k : Value) : List Value := [.int .i64 a.kind, .string ⟨a.name.toArray⟩, .string ⟨a.to.toArray⟩, .string ⟨a.s.toArray⟩, .int .i64 a.n, .int .i64 a.at', k, .bool a.names]
theorem slice_one {P : Program} {W : World} {HH : Type} {enc : TypeId × Value → HH} {base fuel : Nat} {spare : Nat → Bool} {held : Bool} {t e : TypeId} {cs : List Value} {x : DataW HH × List MemPlace} (ht : P.underlying t = some (.slice e)) (h : DataW.trod enc P W base spare held fuel t cs = some x) : ∃ k, cs = [k] ∧ k.oneCell' = true := by
  rcases DataW.trod_slice ht h with ⟨rfl, _⟩ | ⟨a, len, cap, _, _, _, _, rfl, _⟩ <;> exact ⟨_, rfl, rfl⟩
set_option maxRecDepth 100000 in
theorem open_act {W : World} {HH : Type} {enc : TypeId × Value → HH} {base fuel : Nat} {spare : Nat → Bool} {held : Bool} {cs : List Value} {x : DataW HH × List MemPlace} (h : DataW.trod enc Try.prog W base spare held fuel 49 cs = some x) :
    ∃ a k, cs = actG a k ∧ k.oneCell' = true ∧ a.fits := by
  obtain ⟨xs, n, _, rfl, hl, hlen, hf⟩ := DataW.trod_struct Try.underlying49 h
  rw [show Try.prog.cellsOf 49 = 8 by kernel_rfl] at hl
  match cs, hl with
  | [c0, c1, c2, c3, c4, c5, c6, c7], _ =>
    match xs, hlen with
    | [y0, y1, y2, y3, y4, y5, y6, y7], _ =>
      have F : ∀ (i : Nat) (f : Field), (#[⟨"Kind", 3, 0, false, "", "", 0⟩, ⟨"Name", 9, 1, false, "", "", 8⟩, ⟨"To", 9, 2, false, "", "", 24⟩, ⟨"S", 9, 3, false, "", "", 40⟩, ⟨"N", 3, 4, false, "", "", 56⟩, ⟨"At", 3, 5, false, "", "", 64⟩, ⟨"Keeps", 45, 6, false, "", "", 72⟩, ⟨"Names", 4, 7, false, "", "", 96⟩] : Array Field)[i]? = some f → ∀ (t o : Nat), f.type = t → f.offset = o → DataW.trod enc Try.prog W base spare held n t ((([c0, c1, c2, c3, c4, c5, c6, c7] : List Value).drop o).take (Try.prog.cellsOf t)) = [y0, y1, y2, y3, y4, y5, y6, y7][i]? := fun i f h t o e1 e2 => by subst e1 e2; exact hf i f h
      have f0 := F 0 _ rfl 3 0 rfl rfl
      have f1 := F 1 _ rfl 9 1 rfl rfl
      have f2 := F 2 _ rfl 9 2 rfl rfl
      have f3 := F 3 _ rfl 9 3 rfl rfl
      have f4 := F 4 _ rfl 3 4 rfl rfl
      have f5 := F 5 _ rfl 3 5 rfl rfl
      have f6 := F 6 _ rfl 45 6 rfl rfl
      have f7 := F 7 _ rfl 4 7 rfl rfl
      clear hf F
      simp only [show Try.prog.cellsOf 3 = 1 by kernel_rfl, show Try.prog.cellsOf 9 = 1 by kernel_rfl, show Try.prog.cellsOf 45 = 1 by kernel_rfl, show Try.prog.cellsOf 4 = 1 by kernel_rfl, List.drop_zero, List.drop_succ_cons, List.take_succ_cons, List.take_zero, List.getElem?_cons_zero, List.getElem?_cons_succ] at f0 f1 f2 f3 f4 f5 f6 f7
      obtain ⟨n0, e0, _, w0⟩ := DataW.trod_int Try.underlying3 f0
      obtain ⟨s1, e1, _, _⟩ := DataW.trod_string Try.underlying9 f1
      obtain ⟨s2, e2, _, _⟩ := DataW.trod_string Try.underlying9 f2
      obtain ⟨s3, e3, _, _⟩ := DataW.trod_string Try.underlying9 f3
      obtain ⟨n4, e4, _, w4⟩ := DataW.trod_int Try.underlying3 f4
      obtain ⟨n5, e5, _, w5⟩ := DataW.trod_int Try.underlying3 f5
      obtain ⟨k, e6, hk⟩ := slice_one Try.underlying45 f6
      obtain ⟨b7, e7, _⟩ := DataW.trod_bool Try.underlying4 f7
      simp only [List.cons.injEq, and_true] at e0 e1 e2 e3 e4 e5 e6 e7
      subst e0 e1 e2 e3 e4 e5 e6 e7
      refine ⟨⟨n0, s1.data.toList, s2.data.toList, s3.data.toList, n4, n5, b7⟩, c6, rfl, hk, ?_⟩
      simp only [Lit.wf, Bool.and_eq_true, decide_eq_true_eq] at w4
      have l1 := w4.1
      have l2 := w4.2
      simp [IntKind.min, IntKind.max, IntKind.bits, IntKind.signed] at l1 l2
      exact ⟨by show _ ≤ n4; omega, by show n4 < _; omega⟩
theorem flat8 {α β : Type} {f : α → List β} (hf : ∀ x, (f x).length = 8) : ∀ (l : List α) (q : Nat) (x : α), l[q]? = some x → ((l.flatMap f).drop (q * 8)).take 8 = f x
  | [], q, x, h => by simp at h
  | y :: l, 0, x, h => by
    simp only [List.getElem?_cons_zero, Option.some.injEq] at h
    subst h
    simp only [Nat.zero_mul, List.drop_zero, List.flatMap_cons]
    rw [List.take_append_of_le_length (by rw [hf]; omega), List.take_of_length_le (by rw [hf]; omega)]
  | y :: l, q + 1, x, h => by
    simp only [List.getElem?_cons_succ] at h
    rw [List.flatMap_cons, show (q + 1) * 8 = (f y).length + q * 8 by rw [hf]; omega, List.drop_length_add_append]
    exact flat8 hf l q x h
theorem flat8_len {α β : Type} {f : α → List β} (hf : ∀ x, (f x).length = 8) : ∀ l : List α, (l.flatMap f).length = l.length * 8
  | [] => rfl
  | y :: l => by rw [List.flatMap_cons, List.length_append, hf, flat8_len hf l, List.length_cons]; omega
theorem act_cell (a : ActP) (k : Value) (hk : k.oneCell' = true) (μ : Mu) : ∀ (r : Nat) (v : V), (actV a)[r]? = some v → ∃ d, (actG a k)[r]? = some d ∧ VR μ v d ∧ d.oneCell' = true := by
  intro r v h
  match r with
  | 0 => cases h; exact ⟨_, rfl, .int _ _, rfl⟩
  | 1 => cases h; exact ⟨_, rfl, .str _, rfl⟩
  | 2 => cases h; exact ⟨_, rfl, .str _, rfl⟩
  | 3 => cases h; exact ⟨_, rfl, .str _, rfl⟩
  | 4 => cases h; exact ⟨_, rfl, .int _ _, rfl⟩
  | 5 => cases h; exact ⟨_, rfl, .int _ _, rfl⟩
  | 6 => cases h; exact ⟨_, rfl, .any hk, hk⟩
  | 7 => cases h; exact ⟨_, rfl, .bool _, rfl⟩
  | r + 8 => cases h
theorem choose_list {α : Type} {p : Nat → α → Prop} : ∀ n : Nat, (∀ i, i < n → ∃ x, p i x) → ∃ l : List α, l.length = n ∧ ∀ i x, l[i]? = some x → p i x
  | 0, _ => ⟨[], rfl, fun i x h => by simp at h⟩
  | n + 1, h => by
    obtain ⟨l, h1, h2⟩ := choose_list n fun i hi => h i (by omega)
    obtain ⟨x, hx⟩ := h n (by omega)
    refine ⟨l ++ [x], by simp [h1], fun i y hy => ?_⟩
    rcases Nat.lt_trichotomy i n with c | c | c
    · rw [List.getElem?_append_left (by omega)] at hy; exact h2 i y hy
    · subst c
      rw [List.getElem?_append_right (by omega), h1, Nat.sub_self] at hy
      cases hy; exact hx
    · rw [List.getElem?_eq_none (by simp; omega)] at hy; cases hy
set_option maxRecDepth 100000 in
theorem open_acts {W : World} {base base2 : Nat} {HH : Type} {enc : TypeId × Value → HH} {held : Bool} {v0 : Value} {d0 : DataW HH} {p0 : List MemPlace}
    (okw : Value.okWide Try.prog W .any base 47 v0) (h0 : DataW.Trod enc Try.prog W base2 (fun _ => true) held 47 v0 d0 p0) (b : Nat) :
    ∃ (L : Mir.Loc) (o : Option (List V)) (v : V) (l : List ActP), PieceOk W (L, o) ∧ (∀ μ : Mu, μ b = some L → VR μ v v0) ∧ ∀ h : Mir.H, h b = o.map (fun cs => AObj.cells cs true) → ActsAt h v l := by
  obtain ⟨a0, len0, cap0, rfl⟩ := okWide_slice Try.underlying47 okw
  obtain ⟨fuel, hf⟩ := h0
  rcases DataW.trod_slice Try.underlying47 hf with ⟨hcs, hx⟩ | ⟨a, len, cap, elems, rest, n, _, hcs, _, _, hl, hm, hlen, hel, hsp, _⟩
  · have e1 : (Value.slice a0 len0 cap0) = .slice none 0 0 := by simpa [Value.cells] using hcs
    rw [e1]
    exact ⟨⟨0, 0, 0⟩, none, .nilsl, [], fun cs h => (by cases h), fun μ _ => .nilsl, fun h _ => ⟨fun a h => (by cases h), .inl ⟨rfl, .inl rfl⟩⟩⟩
  have e1 : (Value.slice a0 len0 cap0) = .slice (some a) len cap := by simpa [Value.cells] using hcs
  rw [e1] at okw ⊢
  have hspot : a.spot = none := by
    simp only [Value.okWide, Try.underlying47, Cell.okWide, Cell.ok, World.has] at okw
    exact okw.2.2.2.1
  rw [show Try.prog.cellsOf 49 = 8 by kernel_rfl] at hel hsp
  obtain ⟨hrl, hrest⟩ := hsp rfl
  obtain ⟨l, hll, hlp⟩ := choose_list (p := fun i (q : ActP × Value) => W.cells? base2 (a.add (i * 8)) 8 = some (actG q.1 q.2) ∧ q.2.oneCell' = true ∧ q.1.fits) cap fun i hi => by
    have key : ∃ y, (W.cells? base2 (a.add (i * 8)) 8).bind (DataW.trod enc Try.prog W base2 (fun _ => true) held n 49) = some y := by
      by_cases c : i < len
      · exact ⟨_, (hel i c).trans (List.getElem?_eq_getElem (by omega))⟩
      · have := hrest (i - len) (by omega)
        rw [show len + (i - len) = i by omega] at this
        exact ⟨_, this.trans (List.getElem?_eq_getElem (by omega))⟩
    obtain ⟨y, hy⟩ := key
    rw [Option.bind_eq_some_iff] at hy
    obtain ⟨cs, h1, h2⟩ := hy
    obtain ⟨q, k, rfl, h3, h4⟩ := open_act h2
    exact ⟨(q, k), h1, h3, h4⟩
  by_cases hc : cap = 0
  · subst hc
    have : len = 0 := by omega
    subst this
    refine ⟨⟨a.block, a.off, a.off⟩, none, .sl b 0 8 0, [], fun cs h => (by cases h), fun μ hμ => ?_, fun h _ => ⟨fun a h => (by cases h), .inl ⟨rfl, .inr ⟨b, 0, rfl⟩⟩⟩⟩
    rw [addr_eq hspot]
    have := VR.sl (μ := μ) (b := b) (o := 0) (es := 8) (len := 0) (o' := 0) (cap := 0) hμ (by simp) (by omega) (by simp) (by omega)
    simpa using this
  · have key : ∀ i, (a.add i) = ⟨a.block, a.off + i, none⟩ := fun i => by
      unfold Addr.add; split
      · rename_i e; subst e; exact addr_eq hspot
      · rfl
    have cell : ∀ (i : Nat) (q : ActP × Value), l[i]? = some q → ∀ r, r < 8 → W.cell? ⟨a.block, a.off + (i * 8 + r), none⟩ = (actG q.1 q.2)[r]? := fun i q hq r hr => by
      have := (World.cells?_some (hlp i q hq).1).2.2 r hr
      rw [key] at this
      have e2 : (⟨a.block, a.off + i * 8, none⟩ : Addr).add r = ⟨a.block, a.off + (i * 8 + r), none⟩ := by
        unfold Addr.add; split
        · rename_i e; subst e; rfl
        · simp [Nat.add_assoc]
      rw [e2] at this
      exact this
    have hblk : ∃ c el fr, W.heap[a.block]? = some (.cells c el fr) ∧ ∀ (i : Nat) (q : ActP × Value), l[i]? = some q → ∀ r, r < 8 → c[a.off + (i * 8 + r)]? = (actG q.1 q.2)[r]? := by
      have hc0 := cell 0 l[0] (List.getElem?_eq_getElem (by omega)) 0 (by omega)
      unfold World.cell? at hc0
      split at hc0
      · rename_i c el fr e
        refine ⟨c, el, fr, e, fun i q hq r hr => ?_⟩
        have := cell i q hq r hr
        unfold World.cell? at this
        simp only [e, Option.isSome_none, Bool.false_eq_true, if_false] at this
        exact this
      · cases hc0
    obtain ⟨c, el, fr, hb, hcs⟩ := hblk
    have hsz : a.off + cap * 8 ≤ c.size := by
      have h1 := hcs (cap - 1) (l[cap - 1]'(by omega)) (List.getElem?_eq_getElem (by omega)) 7 (by omega)
      have h2 : (actG (l[cap - 1]'(by omega)).1 (l[cap - 1]'(by omega)).2)[7]? = some (.bool (l[cap - 1]'(by omega)).1.names) := rfl
      rw [h2] at h1
      have := (Array.getElem?_eq_some_iff.1 h1).1
      omega
    have f8 : ∀ q : ActP × Value, (actV q.1).length = 8 := fun q => rfl
    refine ⟨⟨a.block, a.off, c.size⟩, some (l.flatMap fun q => actV q.1), .sl b 0 8 len, (l.take len).map (·.1), fun cs h => ?_, fun μ hμ => ?_, fun h hh => ⟨fun q hq => ?_, .inr ⟨b, _, true, ?_, hh, ?_, fun i q hq => ?_⟩⟩⟩
    · simp only [Option.some.injEq] at h
      subst h
      refine ⟨c, el, fr, hb, rfl, by show a.off + (l.flatMap fun q => actV q.1).length ≤ c.size; rw [flat8_len f8]; omega, fun i v hv => ?_⟩
      have hi : i < l.length * 8 := by
        have := (List.getElem?_eq_some_iff.1 hv).1
        rw [flat8_len f8] at this; exact this
      have hq : l[i / 8]? = some (l[i / 8]'(by omega)) := List.getElem?_eq_getElem (by omega)
      have hfl := flat8 f8 l (i / 8) _ hq
      have hv' : (actV (l[i / 8]'(by omega)).1)[i % 8]? = some v := by
        rw [← hfl, List.getElem?_take_of_lt (by omega), List.getElem?_drop, show i / 8 * 8 + i % 8 = i by omega]; exact hv
      have hk := (hlp _ _ hq).2.1
      have hcc := hcs _ _ hq (i % 8) (by omega)
      rw [show a.off + (i / 8 * 8 + i % 8) = a.off + i by omega] at hcc
      obtain ⟨d, g1, g2, g3⟩ := act_cell _ _ hk (fun _ => none) (i % 8) v hv'
      refine ⟨d, hcc.trans g1, fun μ => ?_, g3⟩
      obtain ⟨d', g1', g2', _⟩ := act_cell _ _ hk μ (i % 8) v hv'
      rw [g1] at g1'
      cases g1'
      exact g2'
    · rw [addr_eq hspot]
      have := VR.sl (μ := μ) (b := b) (o := 0) (es := 8) (len := len) (o' := 0) (cap := cap) hμ (by simp) hl (by simp; omega) (by omega)
      simpa using this
    · obtain ⟨x, hx, rfl⟩ := List.mem_map.1 hq
      obtain ⟨i, hi⟩ := List.getElem?_of_mem (List.mem_of_mem_take hx)
      exact (hlp i x hi).2.2
    · simp only [List.length_map, List.length_take]; rw [show min len l.length = len by omega]
    · rw [flat8_len f8, List.length_map, List.length_take]; omega
    · rw [List.getElem?_map] at hq
      cases hx : (l.take len)[i]? with
      | none => rw [hx] at hq; cases hq
      | some x =>
        rw [hx, Option.map_some, Option.some.injEq] at hq
        subst hq
        have : l[i]? = some x := by
          have hi : i < (l.take len).length := (List.getElem?_eq_some_iff.1 hx).1
          rw [List.length_take] at hi
          rw [List.getElem?_take_of_lt (by omega)] at hx; exact hx
        exact flat8 f8 l i x this
theorem vr_string {μ : Mu} (s : ByteArray) : VR μ (.str s.data.toList) (.string s) := by
  have := VR.str (μ := μ) s.data.toList
  simpa using this
section
variable {H : Type} {enc : TypeId × Value → H} {P : Program} {w : World} {base : Nat} {spare : Nat → Bool} {held : Bool}
theorem trodAll_five {t t' t'' t3 t4 : TypeId} {args : Array Value} {ds : List (DataW H)} {ps : List MemPlace} (h : DataW.TrodAll enc P w base spare held [t, t', t'', t3, t4] args.toList ds ps) :
    ∃ v v' v'' v3 v4 d d' d'' d3 d4 p p' p'' p3 p4, args = #[v, v', v'', v3, v4] ∧ ds = [d, d', d'', d3, d4] ∧ ps = p ++ p' ++ p'' ++ p3 ++ p4 ∧ DataW.Trod enc P w base spare held t v d p ∧ DataW.Trod enc P w base spare held t' v' d' p' ∧ DataW.Trod enc P w base spare held t'' v'' d'' p'' ∧ DataW.Trod enc P w base spare held t3 v3 d3 p3 ∧ DataW.Trod enc P w base spare held t4 v4 d4 p4 := by
  obtain ⟨v, vs, d, ds', p, q, hargs, rfl, rfl, hd, hrest⟩ := trodAll_cons h
  obtain ⟨v', vs', d', ds'', p', q', rfl, rfl, rfl, hd', hrest'⟩ := trodAll_cons hrest
  obtain ⟨v'', vs'', d'', ds''', p'', q'', rfl, rfl, rfl, hd'', hrest''⟩ := trodAll_cons hrest'
  obtain ⟨v3, vs3, d3, ds3, p3, q3, rfl, rfl, rfl, hd3, hrest3⟩ := trodAll_cons hrest''
  obtain ⟨v4, vs4, d4, ds4, p4, q4, rfl, rfl, rfl, hd4, hrest4⟩ := trodAll_cons hrest3
  obtain ⟨rfl, rfl, rfl⟩ := trodAll_nil hrest4
  exact ⟨v, v', v'', v3, v4, d, d', d'', d3, d4, p, p', p'', p3, p4, by cases args; simp_all, rfl, by simp, hd, hd', hd'', hd3, hd4⟩
theorem trodAll_mk5 {t t' t'' t3 t4 : TypeId} {v v' v'' v3 v4 : Value} {d d' d'' d3 d4 : DataW H} {p p' p'' p3 p4 : List MemPlace} (h : DataW.Trod enc P w base spare held t v d p) (h' : DataW.Trod enc P w base spare held t' v' d' p')
    (h'' : DataW.Trod enc P w base spare held t'' v'' d'' p'') (h3 : DataW.Trod enc P w base spare held t3 v3 d3 p3) (h4 : DataW.Trod enc P w base spare held t4 v4 d4 p4) : DataW.TrodAll enc P w base spare held [t, t', t'', t3, t4] [v, v', v'', v3, v4] [d, d', d'', d3, d4] (p ++ (p' ++ (p'' ++ (p3 ++ p4)))) :=
  ⟨p, p' ++ (p'' ++ (p3 ++ p4)), h, trodAll_mk4 h' h'' h3 h4, rfl⟩
end
end Go.Proofs.Ytijipnkdabdioaa
