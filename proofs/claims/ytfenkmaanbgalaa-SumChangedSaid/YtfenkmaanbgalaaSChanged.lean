/- SumChanged: for every input the law's function returns true and its arguments read as before. -/
import Derived.Test.YtfenkmaanbgalaaW8
import Derived.Test.YtfenkmaanbgalaaL
set_option linter.unusedSimpArgs false
set_option linter.unusedVariables false
namespace Go.Proofs.Ytfenkmaanbgalaa
open Mir Go.ChangeShapes Go.WideShapes Go.ChangeAt Go.RowKit
open Go.ChangeMaps (open_string shut_string)
set_option maxRecDepth 100000 in
theorem sumChanged_lifted (os : Os) (started : os.Started) (H : Type) (enc : TypeId × Value → H) :
    ReturnsInHanded {} Try.checked os 4 .any (Rows.sumChangedSpec.pre6 enc Try.prog Try.f4 Rows.sumChangedRow.domain false) (Rows.sumChangedSpec.post enc Try.prog Try.f4 false true false false) := by
  refine returnsInHanded_of_change (C := Try.checked) Try.own started (by kernel_rfl) Try.func4
    (ChangeSpec.witness6 (enc := enc) (C := Try.checked) false ⟨#[], #[.string ⟨#[]⟩, .int .i64 0, .int .u8 0], []⟩ 8 (by kernel_rfl) (by kernel_rfl) (by kernel_rfl) (by kernel_rfl)) ?_
  intro W base args ds gs before hval0 hW hcnd _
  have hval : ∀ (j : Nat) t v, Try.f4.params[j]? = some t → args[j]? = some v → Value.okWide Try.prog W .any base t v := hval0
  have hW' := hW
  obtain ⟨p, q, hA0, hV, rfl, hfz, hnd⟩ := hW
  have hA : DataW.TrodAll enc Try.prog W 0 (fun _ => true) true Try.f4.params.toList args.toList ds p := hA0
  rw [Try.params4] at hA hval
  obtain ⟨v0, v1, v2, d0, d1, d2, p0, p1, p2, rfl, rfl, rfl, h0, h1, h2⟩ := trodAll_three hA
  obtain ⟨rfl, rfl⟩ := trodVars_none hV
  obtain ⟨s0, rfl, rfl, rfl, w0⟩ := open_string Try.underlying9 (hval 0 9 v0 rfl rfl) h0
  obtain ⟨x1, rfl, rfl, rfl, w1⟩ := open_int Try.underlying3 (hval 1 3 v1 rfl rfl) h1
  obtain ⟨x2, rfl, rfl, rfl, w2⟩ := open_int Try.underlying5 (hval 2 5 v2 rfl rfl) h2
  clear hA0 hval0
  simp only [List.append_nil] at hW'
  let x0 : List UInt8 := s0.data.toList
  have w1' := w1
  simp only [Lit.wf, Bool.and_eq_true, decide_eq_true_eq] at w1'
  have h1l : -9223372036854775808 ≤ x1 := by have := w1'.1; simp [IntKind.min, IntKind.bits, IntKind.signed] at this; omega
  have h1u : x1 < 9223372036854775808 := by have := w1'.2; simp [IntKind.max, IntKind.bits, IntKind.signed] at this; omega
  have w2' := w2
  simp only [Lit.wf, Bool.and_eq_true, decide_eq_true_eq] at w2'
  have h2l : 0 ≤ x2 := by have := w2'.1; simp [IntKind.min, IntKind.bits, IntKind.signed] at this; omega
  have h2u : x2 < 256 := by have := w2'.2; simp [IntKind.max, IntKind.bits, IntKind.signed] at this; omega
  obtain ⟨y2, e2⟩ : ∃ c : UInt8, x2 = (c.toNat : Int) := ⟨UInt8.ofNat x2.toNat, by rw [UInt8.toNat_ofNat_of_lt' (by have : x2.toNat < 256 := (by omega); exact this)]; omega⟩
  subst e2
  have hcalls := law_calls (f := 4) rfl (args := [.str s0.data.toList, .int .i64 x1, .int .u8 (y2.toNat : Nat)]) (args' := [.string s0, .int .i64 x1, .int .u8 (y2.toNat : Nat)]) (fun μ => (.cons (by have := VR.str (μ := μ) s0.data.toList; simpa using this) (.cons (.int _ _) (.cons (.int _ _) .nil)))) (sumChanged_ac x0 x1 y2 rfl) W
  refine hcalls.mono fun e W' ⟨he, hb⟩ => ?_
  subst he
  exact ⟨_, rfl, post_of_plain hW' (fun _ _ _ => trodAll_mk1 (shut_bool Try.underlying4 true)) (fun sp => trodAll_mk3 (shut_string Try.underlying9 w0) (shut_int Try.underlying3 w1) (shut_int Try.underlying5 w2)) (fun _ => rfl) hb (ok_one (by kernel_rfl) rfl (okWide_bool_mk Try.underlying4 true))⟩
theorem sumChanged_holds : Rows.SumChangedSaid :=
  OpenClaim.holds_of_wide 4 Try.f4 rfl rfl rfl rfl rfl rfl rfl ⟨rfl, rfl, rfl, rfl, rfl⟩ rfl rfl rfl rfl rfl (by kernel_rfl) Try.func4 (by kernel_rfl)
    (of_decide_eq_true (by kernel_rfl)) (by unfold Func.isWrapper; first | (rw [if_pos (by decide +kernel)]; kernel_rfl) | (rw [if_neg (by decide +kernel)]; exact ⟨rfl, rfl⟩))
    (fun os started H enc _ => sumChanged_lifted os started H enc)
end Go.Proofs.Ytfenkmaanbgalaa
