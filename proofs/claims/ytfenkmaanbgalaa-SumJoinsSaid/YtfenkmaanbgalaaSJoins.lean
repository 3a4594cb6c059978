/- SumJoins: for every input the law's function returns true and its arguments read as before. -/
import Derived.Test.YtfenkmaanbgalaaW8
import Derived.Test.YtfenkmaanbgalaaL
set_option linter.unusedSimpArgs false
set_option linter.unusedVariables false
namespace Go.Proofs.Ytfenkmaanbgalaa
open Mir Go.ChangeShapes Go.WideShapes Go.ChangeAt Go.RowKit
open Go.ChangeMaps (open_string shut_string)
set_option maxRecDepth 100000 in
theorem sumJoins_lifted (os : Os) (started : os.Started) (H : Type) (enc : TypeId × Value → H) :
    ReturnsInHanded {} Try.checked os 7 .any (Rows.sumJoinsSpec.pre6 enc Try.prog Try.f7 Rows.sumJoinsRow.domain false) (Rows.sumJoinsSpec.post enc Try.prog Try.f7 false true false false) := by
  refine returnsInHanded_of_change (C := Try.checked) Try.own started (by kernel_rfl) Try.func7
    (ChangeSpec.witness6 (enc := enc) (C := Try.checked) false ⟨#[], #[.int .u32 0, .int .u32 0, .int .i64 0], []⟩ 8 (by kernel_rfl) (by kernel_rfl) (by kernel_rfl) (by kernel_rfl)) ?_
  intro W base args ds gs before hval0 hW hcnd _
  have hval : ∀ (j : Nat) t v, Try.f7.params[j]? = some t → args[j]? = some v → Value.okWide Try.prog W .any base t v := hval0
  have hW' := hW
  obtain ⟨p, q, hA0, hV, rfl, hfz, hnd⟩ := hW
  have hA : DataW.TrodAll enc Try.prog W 0 (fun _ => true) true Try.f7.params.toList args.toList ds p := hA0
  rw [Try.params7] at hA hval
  obtain ⟨v0, v1, v2, d0, d1, d2, p0, p1, p2, rfl, rfl, rfl, h0, h1, h2⟩ := trodAll_three hA
  obtain ⟨rfl, rfl⟩ := trodVars_none hV
  obtain ⟨x0, rfl, rfl, rfl, w0⟩ := open_int Try.underlying23 (hval 0 23 v0 rfl rfl) h0
  obtain ⟨x1, rfl, rfl, rfl, w1⟩ := open_int Try.underlying23 (hval 1 23 v1 rfl rfl) h1
  obtain ⟨x2, rfl, rfl, rfl, w2⟩ := open_int Try.underlying3 (hval 2 3 v2 rfl rfl) h2
  clear hA0 hval0
  simp only [List.append_nil] at hW'
  have w0' := w0
  simp only [Lit.wf, Bool.and_eq_true, decide_eq_true_eq] at w0'
  have h0l : 0 ≤ x0 := by have := w0'.1; simp [IntKind.min, IntKind.bits, IntKind.signed] at this; omega
  have h0u : x0 < 4294967296 := by have := w0'.2; simp [IntKind.max, IntKind.bits, IntKind.signed] at this; omega
  have w1' := w1
  simp only [Lit.wf, Bool.and_eq_true, decide_eq_true_eq] at w1'
  have h1l : 0 ≤ x1 := by have := w1'.1; simp [IntKind.min, IntKind.bits, IntKind.signed] at this; omega
  have h1u : x1 < 4294967296 := by have := w1'.2; simp [IntKind.max, IntKind.bits, IntKind.signed] at this; omega
  have w2' := w2
  simp only [Lit.wf, Bool.and_eq_true, decide_eq_true_eq] at w2'
  have h2l : -9223372036854775808 ≤ x2 := by have := w2'.1; simp [IntKind.min, IntKind.bits, IntKind.signed] at this; omega
  have h2u : x2 < 9223372036854775808 := by have := w2'.2; simp [IntKind.max, IntKind.bits, IntKind.signed] at this; omega
  have hcalls := law_calls (f := 7) rfl (args := [.int .u32 x0, .int .u32 x1, .int .i64 x2]) (args' := [.int .u32 x0, .int .u32 x1, .int .i64 x2]) (fun μ => (.cons (.int _ _) (.cons (.int _ _) (.cons (.int _ _) .nil)))) (sumJoins_ac x0 x1 x2 h0l h0u h1l h1u h2u rfl) W
  refine hcalls.mono fun e W' ⟨he, hb⟩ => ?_
  subst he
  exact ⟨_, rfl, post_of_plain hW' (fun _ _ _ => trodAll_mk1 (shut_bool Try.underlying4 true)) (fun sp => trodAll_mk3 (shut_int Try.underlying23 w0) (shut_int Try.underlying23 w1) (shut_int Try.underlying3 w2)) (fun _ => rfl) hb (ok_one (by kernel_rfl) rfl (okWide_bool_mk Try.underlying4 true))⟩
theorem sumJoins_holds : Rows.SumJoinsSaid :=
  OpenClaim.holds_of_wide 7 Try.f7 rfl rfl rfl rfl rfl rfl rfl ⟨rfl, rfl, rfl, rfl, rfl⟩ rfl rfl rfl rfl rfl (by kernel_rfl) Try.func7 (by kernel_rfl)
    (of_decide_eq_true (by kernel_rfl)) (by unfold Func.isWrapper; first | (rw [if_pos (by decide +kernel)]; kernel_rfl) | (rw [if_neg (by decide +kernel)]; exact ⟨rfl, rfl⟩))
    (fun os started H enc _ => sumJoins_lifted os started H enc)
end Go.Proofs.Ytfenkmaanbgalaa
