/- A law whose arguments hold no memory: from the mirror to the row. -/
import Derived.Test.YtijipnkdabdioaaP
import Derived.ProofKit
set_option linter.unusedSimpArgs false
set_option linter.unusedVariables false
namespace Go.Proofs.Ytijipnkdabdioaa
open Mir Go.ChangeShapes Go.WideShapes Go.ChangeAt Go.RowKit
theorem law_calls {f : Nat} {g : Mir.Fn} (hg : pg.fns f = some g) {args : List V} {args' : List Value} (hv : ∀ μ, VRs μ args args') (hA : AC pg (.fn f) args (fun _ => none) fun v _ => v = .bool true) (w : World) :
    Calls Try.prog f args'.toArray w fun e w' => e = .returned (.bool true) ∧ Below w.heap.size w w' := by
  have r : R Try.prog (fun i => if i < Try.prog.globals.size then some ⟨i, 0, 0⟩ else none) (fun _ => none) w :=
    ⟨⟨Try.prog.globals.size, fun b hb => if_neg (Nat.not_lt.2 hb)⟩, fun b o hb => by (cases hb), fun b b' o o' L L' hb => by (cases hb), fun i hi => ⟨0, if_pos hi⟩⟩
  refine (calls_of pg_ok hg hA (hv _) r).mono fun e w' ⟨d, he, v, h', μ', hq, hd, st⟩ => ?_
  subst hq
  rw [hd.bool_inv] at he
  refine ⟨he, st.os, st.tape, st.output, st.size, fun k hk => st.kept k hk ?_⟩
  rintro ⟨b, o, L, hb, _⟩
  cases hb
section
variable {H : Type} {enc : TypeId × Value → H} {P : Program}
theorem post_of_plain {f : Func} {s : ChangeSpec} {apart fresh handsOn again : Bool} {W W' : World} {args : Array Value} {v : Value} {ds gs : List (DataW H)}
    (hW : DataW.Whole enc P f.params.toList s.vars apart W args.toList ds gs [])
    (hres : ∀ (b : Nat) (sp : Nat → Bool) (hd : Bool), DataW.TrodAll enc P W' b sp hd f.resultTypes.toList (v.resultList f.resultTypes.size) (s.fn H (ds ++ gs)).results [])
    (hargs : ∀ sp : Nat → Bool, DataW.TrodAll enc P W' 0 sp true f.params.toList args.toList (s.fn H (ds ++ gs)).args [])
    (hvars : ∀ sp : Nat → Bool, DataW.TrodVars enc P W' sp s.vars (s.fn H (ds ++ gs)).vars [])
    (hb : Below W.heap.size W W')
    (hok : ∀ (j : Nat) (t : TypeId) (r : Value), f.resultTypes[j]? = some t → (v.resultList f.resultTypes.size)[j]? = some r → Value.okWide P W' .any 0 t r) :
    s.post enc P f apart fresh handsOn again W args v W' := by
  refine ⟨ds, gs, [], [], [], [], hW, hres _ _ _, hargs _, hvars _, hb.frame _, fun _ => ?_⟩
  refine ⟨hok, _, _, ([] ++ []) ++ [], ⟨[] ++ [], [], trodAll_append (hargs _) (hres _ _ _), hvars _, rfl, ?_, ?_⟩, ?_⟩
  · intro b off hp; simp at hp
  · intro _; simp
  · intro p hp; simp at hp
end
theorem Try.own : ownKnob Try.prog.godebug = none := by kernel_rfl
end Go.Proofs.Ytijipnkdabdioaa
