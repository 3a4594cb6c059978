/- From the mirror to the row, where the program's own tables and two errors are laid ahead. -/
import Derived.Test.YtijipnkdabdioaaDoorP
import Derived.Test.YtijipnkdabdioaaDoorLErr
import Derived.Test.YtijipnkdabdioaaDoorMir31
import Derived.Test.YtijipnkdabdioaaDoorTie
import Derived.Test.YtijipnkdabdioaaDoorCards
import Derived.ProofKit
import Derived.SizedLaws
import Derived.ChangeSame
import Derived.ChangeVars
import Derived.ChangeMaps5
import Derived.JoinedOf
import Derived.JoinedAt
import Derived.RowKit
import Derived.RowKit3
import Derived.RowKitTokens
import Derived.LaidLaws
import Derived.Lib.LaidTab
import Derived.Stop.LaidErr
import Derived.SevenTiedAt
set_option linter.unusedSimpArgs false
set_option linter.unusedVariables false
namespace Go.Proofs.YtijipnkdabdioaaDoor
open Mir Go.ChangeShapes Go.WideShapes Go.ChangeAt Go.RowKit
theorem Tryd.own : ownKnob Tryd.prog.godebug = none := by kernel_rfl
/-! One start that fits. -/
abbrev synS : ByteArray := { data := #[105, 110, 118, 97, 108, 105, 100, 32, 115, 121, 110, 116, 97, 120] }
abbrev rngS : ByteArray := { data := #[118, 97, 108, 117, 101, 32, 111, 117, 116, 32, 111, 102, 32, 114, 97, 110, 103, 101] }
noncomputable abbrev low : Nat := (World.settled Tryd.prog default).heap.size
def db32 : List Int := [0, 1, 28, 2, 29, 14, 24, 3, 30, 22, 20, 15, 25, 17, 4, 8, 31, 27, 13, 23, 21, 19, 16, 7, 26, 12, 18, 6, 11, 5, 10, 9]
noncomputable def db64 : List Int := (match (Rows.laid_math_bits_deBruijn64tab : DataW Unit) with
  | .agg l => l.map fun | .lit (.int _ z) => z | _ => 0
  | _ => [])
def p10s : List Int := (List.range 20).map fun i => ((10 ^ i : Nat) : Int)
noncomputable def laidWorld (os : Os) : World :=
  let N := (World.settled Tryd.prog os).heap.size
  let w0 := World.holding Tryd.prog os ⟨#[.cells #[.string synS] 108, .cells #[.string rngS] 108], #[], []⟩
  let put (h : Array Obj) (g : Nat) (cs : Array Value) : Array Obj := h.modify g fun
    | .cells _ t frozen => .cells cs t frozen
    | o => o
  let h0 := put (put w0.heap 1 #[.iface 106 (.pointer (some ⟨N, 0, none⟩))]) 2 #[.iface 106 (.pointer (some ⟨N + 1, 0, none⟩))]
  let h1 := put h0 3 (p10s.map fun z => Value.int .u64 z).toArray
  let h2 := put h1 4 (db32.map fun z => Value.int .u8 z).toArray
  let h3 := put h2 5 (db64.map fun z => Value.int .u8 z).toArray
  { w0 with heap := h3 }
abbrev laids : List (String × DataW Unit) := [("math/bits.deBruijn32tab", Rows.laid_math_bits_deBruijn32tab), ("math/bits.deBruijn64tab", Rows.laid_math_bits_deBruijn64tab), ("internal/strconv.uint64pow10", Rows.laid_internal_strconv_uint64pow10), ("strconv.ErrRange", Rows.laid_strconv_ErrRange), ("strconv.ErrSyntax", Rows.laid_strconv_ErrSyntax)]
theorem laidWorld_met (os : Os) (args : Array Value) : laidMet Tryd.prog laids ((laidWorld os).forCall (fun _ _ => 0) ⟨#[], args, []⟩).memory :=
  laidMet_of_run' 8 (by kernel_rfl) (by kernel_rfl)
/-! What is read there. -/
theorem Tryd.star : "*" ++ "errors.errorString" = "*errors.errorString" := by decide
theorem Tryd.rowErr (u : TypeId) (h : Tryd.prog.typeName? 3 u = some "*errors.errorString") : u = 106 :=
  typeName_ptr_named (nm := "errors.errorString") (by rw [Tryd.star]; kernel_rfl) (by kernel_rfl) (by decide) u (by rw [Tryd.star]; exact h)
theorem gER : Tryd.prog.globalNamed "strconv.ErrRange" = some 2 := by kernel_rfl
theorem gES : Tryd.prog.globalNamed "strconv.ErrSyntax" = some 1 := by kernel_rfl
theorem gP10 : Tryd.prog.globalNamed "internal/strconv.uint64pow10" = some 3 := by kernel_rfl
theorem p10_tab : (Rows.laid_internal_strconv_uint64pow10 : DataW Unit) = Go.Lib.tabData .u64 p10s := by kernel_rfl
noncomputable def errField : Field := (match Tryd.prog.underlying 108 with
  | some (.struct #[f]) => f
  | _ => default)
noncomputable def msErr : Array (String × TypeId) := (match Tryd.prog.underlying 45 with
  | some (.interface ms) => ms
  | _ => #[])
theorem of_var? {P : Program} {W : World} {n : String} {g : Nat} {cs : Array Value} (hg : P.globalNamed n = some g) (h : W.var? P n = some cs) : ∃ t fr, W.heap[g]? = some (.cells cs t fr) := by
  unfold World.var? at h
  rw [hg, Option.bind_some] at h
  cases hx : W.heap[g]? with
  | none => simp [hx] at h
  | some o =>
    cases o with
    | cells c t fr => simp [hx] at h; subst h; exact ⟨t, fr, rfl⟩
    | _ => simp [hx] at h
theorem laid_reads {W : World} (h : laidMet Tryd.prog laids W) :
    (∃ t fr, W.heap[3]? = some (.cells (p10s.map fun z => Value.int .u64 z).toArray t fr)) ∧
    (∃ v t fr, W.heap[1]? = some (.cells #[v] t fr) ∧ v.oneCell' = true) ∧ (∃ v t fr, W.heap[2]? = some (.cells #[v] t fr) ∧ v.oneCell' = true) := by
  have hf1 : Tryd.prog.underlying 108 = some (.struct #[errField]) := by kernel_rfl
  obtain ⟨a1, s1, e1, _⟩ := laid_sentinel (ti := 45) (ms := msErr) h.tail.tail.tail gER (by kernel_rfl) (by kernel_rfl) Tryd.rowErr (by kernel_rfl) hf1 (ts := 9) (by kernel_rfl) (by kernel_rfl) (by kernel_rfl) (by kernel_rfl) (by kernel_rfl)
  obtain ⟨a2, s2, e2, _⟩ := laid_sentinel (ti := 45) (ms := msErr) h.tail.tail.tail.tail gES (by kernel_rfl) (by kernel_rfl) Tryd.rowErr (by kernel_rfl) hf1 (ts := 9) (by kernel_rfl) (by kernel_rfl) (by kernel_rfl) (by kernel_rfl) (by kernel_rfl)
  have h3 := h.tail.tail
  rw [p10_tab] at h3
  have e3 := Go.Lib.tabIs_of_head (t := 110) (e := 50) (n := 20) gP10 (by kernel_rfl) (by kernel_rfl) (by kernel_rfl) (by kernel_rfl) (by kernel_rfl) h3
  obtain ⟨t1, f1, x1⟩ := of_var? gER e1
  obtain ⟨t2, f2, x2⟩ := of_var? gES e2
  obtain ⟨t3, f3, x3⟩ := of_var? gP10 e3
  exact ⟨⟨t3, f3, x3⟩, ⟨_, t2, f2, x2, rfl⟩, ⟨_, t1, f1, x1, rfl⟩⟩
/-! The mirror's memory at the start. -/
def hL : H := fun b => if b = 3 then some (.cells pow10 true) else if b = 1 ∨ b = 2 then some (.cells [.any] true) else none
def nL (b : Nat) : Nat := if b = 3 then 20 else if b = 1 ∨ b = 2 then 1 else 0
noncomputable def muL : Mu := fun i => if i < Tryd.prog.globals.size then some ⟨i, 0, nL i⟩ else none
theorem hL_ro {b : Nat} {o : AObj} (hb : hL b = some o) : o.ro = true := by
  unfold hL at hb
  split at hb
  · cases hb; rfl
  · split at hb
    · cases hb; rfl
    · cases hb
theorem hL_pow : HasPow hL := rfl
theorem hL_err : HasErr hL := ⟨rfl, rfl⟩
theorem R_laid {W : World} (h : laidMet Tryd.prog laids W) : R Tryd.prog muL hL W := by
  obtain ⟨⟨t3, f3, x3⟩, ⟨v2, t2, f2, x2, o2⟩, ⟨v1, t1, f1, x1, o1⟩⟩ := laid_reads h
  refine ⟨⟨Tryd.prog.globals.size, fun b hb => if_neg (Nat.not_lt.2 hb)⟩, fun b o hb => ?_, fun b b' o o' L L' hb hb' hne h1 h2 hro => ?_, fun i hi => ⟨nL i, if_pos hi⟩, fun b o L x hb hB => ?_⟩
  · unfold hL at hb
    split at hb
    · rename_i e; subst e; cases hb
      refine ⟨⟨_, 0, 20⟩, _, rfl, x3, _, t3, f3, rfl, rfl, by decide, fun i v hv => ?_, fun hh => by cases hh⟩
      have hi : i < 20 := by have := (List.getElem?_eq_some_iff.1 hv).1; simpa [pow10] using this
      rw [pow10_get hi] at hv
      cases hv
      refine ⟨.int .u64 ((10 ^ i : Nat) : Int), ?_, .int _ _, rfl⟩
      simp [p10s, hi]
    · split at hb
      · rename_i e; cases hb
        rcases e with e | e <;> subst e
        · refine ⟨⟨_, 0, 1⟩, _, rfl, x2, _, t2, f2, rfl, rfl, by decide, fun i v hv => ?_, fun hh => by cases hh⟩
          have hi : i = 0 := by have := (List.getElem?_eq_some_iff.1 hv).1; simpa using this
          subst hi; cases hv
          exact ⟨v2, rfl, .any o2, o2⟩
        · refine ⟨⟨_, 0, 1⟩, _, rfl, x1, _, t1, f1, rfl, rfl, by decide, fun i v hv => ?_, fun hh => by cases hh⟩
          have hi : i = 0 := by have := (List.getElem?_eq_some_iff.1 hv).1; simpa using this
          subst hi; cases hv
          exact ⟨v1, rfl, .any o1, o1⟩
      · cases hb
  · rw [hL_ro hb] at hro; cases hro
  · exfalso
    have := hB.2
    unfold hL at hb
    split at hb
    · omega
    · split at hb
      · omega
      · cases hb
theorem law_callsL {f : Nat} {g : Mir.Fn} (hg : pg.fns f = some g) {args : List V} {args' : List Value} (hv : ∀ μ, VRs μ args args') (hA : AC pg (.fn f) args hL fun v _ => v = .bool true) {w : World} (hW : laidMet Tryd.prog laids w) :
    Calls Tryd.prog f args'.toArray w fun e w' => e = .returned (.bool true) ∧ Below w.heap.size w w' := by
  refine (calls_of pg_ok hg hA (hv _) (R_laid hW)).mono fun e w' ⟨d, he, v, h', μ', hq, hd, st⟩ => ?_
  subst hq
  rw [hd.bool_inv] at he
  refine ⟨he, st.os, st.tape, st.output, st.size, fun k hk => st.kept k hk ?_⟩
  rintro ⟨b, o, L, hb, hro, _⟩
  rw [hL_ro hb] at hro; cases hro
section
variable {H : Type} {enc : TypeId × Value → H} {P : Program}
theorem post_of_plain {f : Func} {s : ChangeSpec} {apart fresh handsOn again : Bool} {W W' : World} {args : Array Value} {v : Value} {ds gs : List (DataW H)}
    (hW : DataW.Whole enc P f.params.toList s.vars apart W args.toList ds gs [])
    (hres : ∀ (b : Nat) (sp : Nat → Bool) (hd : Bool), DataW.TrodAll enc P W' b sp hd f.resultTypes.toList (v.resultList f.resultTypes.size) (s.fn H (ds ++ gs)).results [])
    (hargs : ∀ sp : Nat → Bool, DataW.TrodAll enc P W' 0 sp true f.params.toList args.toList (s.fn H (ds ++ gs)).args [])
    (hvars : ∀ sp : Nat → Bool, DataW.TrodVars enc P W' sp s.vars (s.fn H (ds ++ gs)).vars [])
    (hb : Below W.heap.size W W')
    (hok : ∀ (j : Nat) (t : TypeId) (r : Value), f.resultTypes[j]? = some t → (v.resultList f.resultTypes.size)[j]? = some r → Value.okWide P W' .any 0 t r) :
    s.post enc P f apart fresh handsOn again W args v W' := by
  refine ⟨ds, gs, [], [], [], [], hW, hres _ _ _, hargs _, hvars _, hb.frame _, fun _ => ?_⟩
  refine ⟨hok, _, _, ([] ++ []) ++ [], ⟨[] ++ [], [], trodAll_append (hargs _) (hres _ _ _), hvars _, rfl, ?_, ?_⟩, ?_⟩
  · intro b off hp; simp at hp
  · intro _; simp
  · intro p hp; simp at hp
end
end Go.Proofs.YtijipnkdabdioaaDoor
