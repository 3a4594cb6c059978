/- From the mirror to the row, where the program's own tables and two errors are laid ahead. -/
import Derived.Test.YtijipnkdabdioabGreatDoorL
import Derived.Test.YtijipnkdabdioabGreatDoorLErr
import Derived.Test.YtijipnkdabdioabGreatDoorMir31
import Derived.Test.YtijipnkdabdioabGreatDoorTie
import Derived.Test.YtijipnkdabdioabGreatDoorCards
import Derived.ProofKit
import Derived.SizedLaws
import Derived.ChangeSame
import Derived.ChangeVars
import Derived.ChangeMaps5
import Derived.JoinedOf
import Derived.JoinedAt
import Derived.RowKit
import Derived.RowKit3
import Derived.RowKitTokens
import Derived.LaidLaws
import Derived.Lib.LaidTab
import Derived.Stop.LaidErr
import Derived.SevenTiedAt
set_option linter.unusedSimpArgs false
set_option linter.unusedVariables false
namespace Go.Proofs.YtijipnkdabdioabGreatDoor
open Mir Go.ChangeShapes Go.WideShapes Go.ChangeAt Go.RowKit
/-! One start that fits. -/
abbrev synS : ByteArray := { data := #[105, 110, 118, 97, 108, 105, 100, 32, 115, 121, 110, 116, 97, 120] }
abbrev rngS : ByteArray := { data := #[118, 97, 108, 117, 101, 32, 111, 117, 116, 32, 111, 102, 32, 114, 97, 110, 103, 101] }
noncomputable abbrev low : Nat := (World.settled Tryz.prog default).heap.size
def db32 : List Int := [0, 1, 28, 2, 29, 14, 24, 3, 30, 22, 20, 15, 25, 17, 4, 8, 31, 27, 13, 23, 21, 19, 16, 7, 26, 12, 18, 6, 11, 5, 10, 9]
noncomputable def db64 : List Int := (match (Rows.laid_math_bits_deBruijn64tab : DataW Unit) with
  | .agg l => l.map fun | .lit (.int _ z) => z | _ => 0
  | _ => [])
def p10s : List Int := (List.range 20).map fun i => ((10 ^ i : Nat) : Int)
noncomputable def laidWorld (os : Os) : World :=
  let N := (World.settled Tryz.prog os).heap.size
  let w0 := World.holding Tryz.prog os ⟨#[.cells #[.string synS] 135, .cells #[.string rngS] 135], #[], []⟩
  let put (h : Array Obj) (g : Nat) (cs : Array Value) : Array Obj := h.modify g fun
    | .cells _ t frozen => .cells cs t frozen
    | o => o
  let h0 := put (put w0.heap 1 #[.iface 133 (.pointer (some ⟨N, 0, none⟩))]) 2 #[.iface 133 (.pointer (some ⟨N + 1, 0, none⟩))]
  let h1 := put h0 3 (p10s.map fun z => Value.int .u64 z).toArray
  let h2 := put h1 4 (db32.map fun z => Value.int .u8 z).toArray
  let h3 := put h2 5 (db64.map fun z => Value.int .u8 z).toArray
  { w0 with heap := h3 }
abbrev laids : List (String × DataW Unit) := [("math/bits.deBruijn32tab", Rows.laid_math_bits_deBruijn32tab), ("math/bits.deBruijn64tab", Rows.laid_math_bits_deBruijn64tab), ("internal/strconv.uint64pow10", Rows.laid_internal_strconv_uint64pow10), ("strconv.ErrRange", Rows.laid_strconv_ErrRange), ("strconv.ErrSyntax", Rows.laid_strconv_ErrSyntax)]
theorem laidWorld_met (os : Os) (args : Array Value) : laidMet Tryz.prog laids ((laidWorld os).forCall (fun _ _ => 0) ⟨#[], args, []⟩).memory :=
  laidMet_of_run' 8 (by kernel_rfl) (by kernel_rfl)
/-! What is read there. -/
theorem Tryz.star : "*" ++ "errors.errorString" = "*errors.errorString" := by decide
theorem Tryz.rowErr (u : TypeId) (h : Tryz.prog.typeName? 3 u = some "*errors.errorString") : u = 133 :=
  typeName_ptr_named (nm := "errors.errorString") (by rw [Tryz.star]; kernel_rfl) (by kernel_rfl) (by decide) u (by rw [Tryz.star]; exact h)
theorem gER : Tryz.prog.globalNamed "strconv.ErrRange" = some 2 := by kernel_rfl
theorem gES : Tryz.prog.globalNamed "strconv.ErrSyntax" = some 1 := by kernel_rfl
theorem gP10 : Tryz.prog.globalNamed "internal/strconv.uint64pow10" = some 3 := by kernel_rfl
theorem p10_tab : (Rows.laid_internal_strconv_uint64pow10 : DataW Unit) = Go.Lib.tabData .u64 p10s := by kernel_rfl
noncomputable def errField : Field := (match Tryz.prog.underlying 135 with
  | some (.struct #[f]) => f
  | _ => default)
noncomputable def msErr : Array (String × TypeId) := (match Tryz.prog.underlying 69 with
  | some (.interface ms) => ms
  | _ => #[])
theorem of_var? {P : Program} {W : World} {n : String} {g : Nat} {cs : Array Value} (hg : P.globalNamed n = some g) (h : W.var? P n = some cs) : ∃ t fr, W.heap[g]? = some (.cells cs t fr) := by
  unfold World.var? at h
  rw [hg, Option.bind_some] at h
  cases hx : W.heap[g]? with
  | none => simp [hx] at h
  | some o =>
    cases o with
    | cells c t fr => simp [hx] at h; subst h; exact ⟨t, fr, rfl⟩
    | _ => simp [hx] at h
theorem laid_reads {W : World} (h : laidMet Tryz.prog laids W) :
    (∃ t fr, W.heap[3]? = some (.cells (p10s.map fun z => Value.int .u64 z).toArray t fr)) ∧
    (∃ v t fr, W.heap[1]? = some (.cells #[v] t fr) ∧ v.oneCell' = true) ∧ (∃ v t fr, W.heap[2]? = some (.cells #[v] t fr) ∧ v.oneCell' = true) := by
  have hf1 : Tryz.prog.underlying 135 = some (.struct #[errField]) := by kernel_rfl
  obtain ⟨a1, s1, e1, _⟩ := laid_sentinel (ti := 69) (ms := msErr) h.tail.tail.tail gER (by kernel_rfl) (by kernel_rfl) Tryz.rowErr (by kernel_rfl) hf1 (ts := 9) (by kernel_rfl) (by kernel_rfl) (by kernel_rfl) (by kernel_rfl) (by kernel_rfl)
  obtain ⟨a2, s2, e2, _⟩ := laid_sentinel (ti := 69) (ms := msErr) h.tail.tail.tail.tail gES (by kernel_rfl) (by kernel_rfl) Tryz.rowErr (by kernel_rfl) hf1 (ts := 9) (by kernel_rfl) (by kernel_rfl) (by kernel_rfl) (by kernel_rfl) (by kernel_rfl)
  have h3 := h.tail.tail
  rw [p10_tab] at h3
  have e3 := Go.Lib.tabIs_of_head (t := 126) (e := 106) (n := 20) gP10 (by kernel_rfl) (by kernel_rfl) (by kernel_rfl) (by kernel_rfl) (by kernel_rfl) h3
  obtain ⟨t1, f1, x1⟩ := of_var? gER e1
  obtain ⟨t2, f2, x2⟩ := of_var? gES e2
  obtain ⟨t3, f3, x3⟩ := of_var? gP10 e3
  exact ⟨⟨t3, f3, x3⟩, ⟨_, t2, f2, x2, rfl⟩, ⟨_, t1, f1, x1, rfl⟩⟩
/-! The mirror's memory at the start. -/
def hL : H := fun b => if b = 3 then some (.cells pow10 true) else if b = 1 ∨ b = 2 then some (.cells [.any] true) else none
def nL (b : Nat) : Nat := if b = 3 then 20 else if b = 1 ∨ b = 2 then 1 else 0
noncomputable def muL : Mu := fun i => if i < Tryz.prog.globals.size then some ⟨i, 0, nL i⟩ else none
theorem hL_ro {b : Nat} {o : AObj} (hb : hL b = some o) : o.ro = true := by
  unfold hL at hb
  split at hb
  · cases hb; rfl
  · split at hb
    · cases hb; rfl
    · cases hb
theorem hL_pow : HasPow hL := rfl
theorem hL_err : HasErr hL := ⟨rfl, rfl⟩
theorem laid_at {W : World} (h : laidMet Tryz.prog laids W) (μ : Mu) {b : Nat} {o : AObj} (hb : hL b = some o) : b < Tryz.prog.globals.size ∧ b < 1000 ∧ ∃ x, W.heap[b]? = some x ∧ OR Tryz.prog μ ⟨b, 0, nL b⟩ o x := by
  obtain ⟨⟨t3, f3, x3⟩, ⟨v2, t2, f2, x2, o2⟩, ⟨v1, t1, f1, x1, o1⟩⟩ := laid_reads h
  unfold hL at hb
  split at hb
  · rename_i e; subst e; cases hb
    refine ⟨of_decide_eq_true (by kernel_rfl), by decide, _, x3, _, t3, f3, rfl, rfl, by decide, fun i v hv => ?_, fun hh => by cases hh⟩
    have hi : i < 20 := by have := (List.getElem?_eq_some_iff.1 hv).1; simpa [pow10] using this
    rw [pow10_get hi] at hv
    cases hv
    refine ⟨.int .u64 ((10 ^ i : Nat) : Int), ?_, .int _ _, rfl⟩
    simp [p10s, hi]
  · split at hb
    · rename_i e; cases hb
      rcases e with e | e <;> subst e
      · refine ⟨of_decide_eq_true (by kernel_rfl), by decide, _, x2, _, t2, f2, rfl, rfl, by decide, fun i v hv => ?_, fun hh => by cases hh⟩
        have hi : i = 0 := by have := (List.getElem?_eq_some_iff.1 hv).1; simpa using this
        subst hi; cases hv
        exact ⟨v2, rfl, .any o2, o2⟩
      · refine ⟨of_decide_eq_true (by kernel_rfl), by decide, _, x1, _, t1, f1, rfl, rfl, by decide, fun i v hv => ?_, fun hh => by cases hh⟩
        have hi : i = 0 := by have := (List.getElem?_eq_some_iff.1 hv).1; simpa using this
        subst hi; cases hv
        exact ⟨v1, rfl, .any o1, o1⟩
    · cases hb
theorem R_laid {W : World} (h : laidMet Tryz.prog laids W) : R Tryz.prog muL hL W := by
  refine ⟨⟨Tryz.prog.globals.size, fun b hb => if_neg (Nat.not_lt.2 hb)⟩, fun b o hb => ?_, fun b b' o o' L L' hb hb' hne h1 h2 hro => ?_, fun i hi => ⟨nL i, if_pos hi⟩, fun b o L x hb hB => ?_⟩
  · obtain ⟨h1, h2, x, h3, h4⟩ := laid_at h muL hb
    exact ⟨_, x, if_pos h1, h3, h4⟩
  · rw [hL_ro hb] at hro; cases hro
  · obtain ⟨h1, h2, _⟩ := laid_at h muL hb
    exact absurd hB.2 (by omega)
/-! .. with slices, to be read alone, among the arguments. -/
noncomputable def muLP (ps : List Piece) : Mu := fun b => if b < Tryz.prog.globals.size then some ⟨b, 0, nL b⟩ else (pieceAt Tryz.prog.globals.size ps b).map (·.1)
noncomputable def hLP (ps : List Piece) : H := fun b => if b < Tryz.prog.globals.size then hL b else hOf Tryz.prog.globals.size ps b
theorem muLP_at {i : Nat} {ps : List Piece} {L : Mir.Loc} {o : Option (List V)} (h : ps[i]? = some (L, o)) : muLP ps (2 * (Tryz.prog.globals.size + i)) = some L := by
  unfold muLP
  rw [if_neg (by omega), pieceAt_at h]; rfl
theorem hLP_at {i : Nat} {ps : List Piece} {L : Mir.Loc} {o : Option (List V)} (h : ps[i]? = some (L, o)) : hLP ps (2 * (Tryz.prog.globals.size + i)) = o.map fun cs => .cells cs true := by
  unfold hLP
  rw [if_neg (by omega), hOf_at h]
theorem hLP_old {ps : List Piece} {g : Nat} {o : AObj} (hg : hL g = some o) (h : g < Tryz.prog.globals.size) : hLP ps g = some o := by
  unfold hLP
  rw [if_pos h, hg]
theorem hLP_pow {ps : List Piece} : HasPow (hLP ps) := hLP_old hL_pow (of_decide_eq_true (by kernel_rfl))
theorem hLP_err {ps : List Piece} : HasErr (hLP ps) := ⟨hLP_old hL_err.syn (of_decide_eq_true (by kernel_rfl)), hLP_old hL_err.rng (of_decide_eq_true (by kernel_rfl))⟩
theorem hLP_ro {ps : List Piece} {b : Nat} {o : AObj} (hb : hLP ps b = some o) : o.ro = true := by
  unfold hLP at hb
  split at hb
  · exact hL_ro hb
  · exact hOf_ro hb
theorem R_laidP {W : World} (h : laidMet Tryz.prog laids W) {ps : List Piece} (hok : ∀ p ∈ ps, PieceOk W p) : R Tryz.prog (muLP ps) (hLP ps) W := by
  have r := R_pieces (P := Tryz.prog) hok
  obtain ⟨N, hN⟩ := r.fin
  refine ⟨⟨N + Tryz.prog.globals.size, fun b hb => ?_⟩, fun b o hb => ?_, fun b b' o o' L L' hb hb' hne h1 h2 hro => ?_, fun i hi => ⟨nL i, if_pos hi⟩, fun b o L x hb hB hm hx => ?_⟩
  · have := hN b (by omega)
    unfold muOf at this
    unfold muLP
    rw [if_neg (by omega)] at this ⊢
    exact this
  · unfold hLP at hb
    split at hb
    · rename_i hG
      obtain ⟨h1, h2, x, h3, h4⟩ := laid_at h (muLP ps) hb
      exact ⟨_, x, if_pos hG, h3, h4⟩
    · rename_i hG
      unfold hOf at hb
      rw [if_neg hG] at hb
      cases hp : pieceAt Tryz.prog.globals.size ps b with
      | none => rw [hp] at hb; cases hb
      | some p =>
        rw [hp] at hb
        cases h2 : p.2 with
        | none => rw [Option.bind_some, h2] at hb; cases hb
        | some cs =>
          rw [Option.bind_some, h2, Option.map_some, Option.some.injEq] at hb
          subst hb
          have hm : p ∈ ps := by
            unfold pieceAt at hp
            split at hp
            · cases hp
            · exact List.mem_of_getElem? hp
          obtain ⟨c, el, fr, e1, e2, e3, e4⟩ := hok p hm cs h2
          refine ⟨p.1, _, by unfold muLP; rw [if_neg hG, hp]; rfl, e1, c, el, fr, rfl, e2, e3, fun i v hv => ?_, fun h => by cases h⟩
          obtain ⟨d, d1, d2, d3⟩ := e4 i v hv
          exact ⟨d, d1, d2 _, d3⟩
  · rw [hLP_ro hb] at hro; cases hro
  · exfalso
    unfold hLP at hb
    split at hb
    · obtain ⟨h1, h2, _⟩ := laid_at h muL hb
      exact absurd hB.2 (by omega)
    · unfold hOf pieceAt at hb
      rw [if_pos (Or.inr hB.1)] at hb
      split at hb <;> cases hb
theorem law_callsLP {f : Nat} {g : Mir.Fn} (hg : pg.fns f = some g) {args : List V} {args' : List Value} {w : World} {ps : List Piece} (hok : ∀ p ∈ ps, PieceOk w p) (hv : VRs (muLP ps) args args')
    (hA : AC pg (.fn f) args (hLP ps) fun v _ => v = .bool true) (hW : laidMet Tryz.prog laids w) :
    Calls Tryz.prog f args'.toArray w fun e w' => e = .returned (.bool true) ∧ Below w.heap.size w w' := by
  refine (calls_of pg_ok hg hA hv (R_laidP hW hok)).mono fun e w' ⟨d, he, v, h', μ', hq, hd, st⟩ => ?_
  subst hq
  rw [hd.bool_inv] at he
  refine ⟨he, st.os, st.tape, st.output, st.size, fun k hk => st.kept k hk ?_⟩
  rintro ⟨b, o, L, hb, hro, _⟩
  rw [hLP_ro hb] at hro; cases hro
theorem law_callsL {f : Nat} {g : Mir.Fn} (hg : pg.fns f = some g) {args : List V} {args' : List Value} (hv : ∀ μ, VRs μ args args') (hA : AC pg (.fn f) args hL fun v _ => v = .bool true) {w : World} (hW : laidMet Tryz.prog laids w) :
    Calls Tryz.prog f args'.toArray w fun e w' => e = .returned (.bool true) ∧ Below w.heap.size w w' := by
  refine (calls_of pg_ok hg hA (hv _) (R_laid hW)).mono fun e w' ⟨d, he, v, h', μ', hq, hd, st⟩ => ?_
  subst hq
  rw [hd.bool_inv] at he
  refine ⟨he, st.os, st.tape, st.output, st.size, fun k hk => st.kept k hk ?_⟩
  rintro ⟨b, o, L, hb, hro, _⟩
  rw [hL_ro hb] at hro; cases hro
end Go.Proofs.YtijipnkdabdioabGreatDoor
