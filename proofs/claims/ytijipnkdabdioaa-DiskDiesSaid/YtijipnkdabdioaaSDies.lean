/- DiskDies: for every input the law's function returns true and its arguments read as before. -/
import Derived.Test.YtijipnkdabdioaaD11
import Derived.Test.YtijipnkdabdioaaL
set_option linter.unusedSimpArgs false
set_option linter.unusedVariables false
namespace Go.Proofs.Ytijipnkdabdioaa
open Mir Go.ChangeShapes Go.WideShapes Go.ChangeAt Go.RowKit
open Go.ChangeMaps (open_string shut_string)
set_option maxRecDepth 100000 in
theorem diskDies_lifted (os : Os) (started : os.Started) (H : Type) (enc : TypeId × Value → H) :
    ReturnsInHanded {} Try.checked os 5 .any (Rows.diskDiesSpec.pre6 enc Try.prog Try.f5 Rows.diskDiesRow.domain false) (Rows.diskDiesSpec.post enc Try.prog Try.f5 false true false false) := by
  refine returnsInHanded_of_change (C := Try.checked) Try.own started (by kernel_rfl) Try.func5
    (ChangeSpec.witness6 (enc := enc) (C := Try.checked) false ⟨#[], #[.int .i64 0, .string ⟨#[]⟩], []⟩ 8 (by kernel_rfl) (by kernel_rfl) (by kernel_rfl) (by kernel_rfl)) ?_
  intro W base args ds gs before hval0 hW hcnd _
  have hval : ∀ (j : Nat) t v, Try.f5.params[j]? = some t → args[j]? = some v → Value.okWide Try.prog W .any base t v := hval0
  have hW' := hW
  obtain ⟨p, q, hA0, hV, rfl, hfz, hnd⟩ := hW
  have hA : DataW.TrodAll enc Try.prog W 0 (fun _ => true) true Try.f5.params.toList args.toList ds p := hA0
  rw [Try.params5] at hA hval
  obtain ⟨v0, v1, d0, d1, p0, p1, rfl, rfl, rfl, h0, h1⟩ := trodAll_two hA
  obtain ⟨rfl, rfl⟩ := trodVars_none hV
  obtain ⟨x0, rfl, rfl, rfl, w0⟩ := open_int Try.underlying3 (hval 0 3 v0 rfl rfl) h0
  obtain ⟨s1, rfl, rfl, rfl, w1⟩ := open_string Try.underlying9 (hval 1 9 v1 rfl rfl) h1
  clear hA0 hval0
  simp only [List.append_nil] at hW'
  have w0' := w0
  simp only [Lit.wf, Bool.and_eq_true, decide_eq_true_eq] at w0'
  have h0l : -9223372036854775808 ≤ x0 := by have := w0'.1; simp [IntKind.min, IntKind.bits, IntKind.signed] at this; omega
  have h0u : x0 < 9223372036854775808 := by have := w0'.2; simp [IntKind.max, IntKind.bits, IntKind.signed] at this; omega
  let x1 : List UInt8 := s1.data.toList
  have hcalls := law_calls (f := 5) rfl (args := [.int .i64 x0, .str s1.data.toList]) (args' := [.int .i64 x0, .string s1]) (fun μ => (.cons (.int _ _) (.cons (by have := VR.str (μ := μ) s1.data.toList; simpa using this) .nil))) (diskDies_ac x0 x1 rfl) W
  refine hcalls.mono fun e W' ⟨he, hb⟩ => ?_
  subst he
  exact ⟨_, rfl, post_of_plain hW' (fun _ _ _ => trodAll_mk1 (shut_bool Try.underlying4 true)) (fun sp => trodAll_mk2 (shut_int Try.underlying3 w0) (shut_string Try.underlying9 w1)) (fun _ => rfl) hb (ok_one (by kernel_rfl) rfl (okWide_bool_mk Try.underlying4 true))⟩
theorem diskDies_holds : Rows.DiskDiesSaid :=
  OpenClaim.holds_of_wide 5 Try.f5 rfl rfl rfl rfl rfl rfl rfl ⟨rfl, rfl, rfl, rfl, rfl⟩ rfl rfl rfl rfl rfl (by kernel_rfl) Try.func5 (by kernel_rfl)
    (of_decide_eq_true (by kernel_rfl)) (by unfold Func.isWrapper; first | (rw [if_pos (by decide +kernel)]; kernel_rfl) | (rw [if_neg (by decide +kernel)]; exact ⟨rfl, rfl⟩))
    (fun os started H enc _ => diskDies_lifted os started H enc)
end Go.Proofs.Ytijipnkdabdioaa
