/- ParseOrder: for every input the law's function returns true and its arguments read as before. -/
import Derived.Test.YtkfbldogmgofoaaGreatDoorPO
import Derived.Test.YtkfbldogmgofoaaGreatDoorLP
import Derived.LaidLaws
set_option linter.unusedSimpArgs false
set_option linter.unusedVariables false
namespace Go.Proofs.YtkfbldogmgofoaaGreatDoor
open Mir Go.ChangeShapes Go.WideShapes Go.ChangeAt Go.RowKit
open Go.ChangeMaps (open_string shut_string)
set_option maxRecDepth 100000 in
theorem parseOrder_lifted (os : Os) (started : os.Started) (H : Type) (enc : TypeId × Value → H) :
    ReturnsInHanded {} Tryz.checked os 12 .any (fun w args => (Rows.parseOrderSpec.pre enc Tryz.prog Tryz.f12 Rows.parseOrderRow.domain false w args ∧ laidMet Tryz.prog laidsP w) ∧ sizedMet enc Tryz.prog Tryz.f12 (OpenSpec.ofChange Rows.parseOrderSpec) false w args) (Rows.parseOrderSpec.post enc Tryz.prog Tryz.f12 false true false false) := by
  refine handed_shaped (C := Tryz.checked) (X := fun w _ => laidMet Tryz.prog laidsP w) (fun _ _ _ hh h => h.of_heap hh) Tryz.own started (by kernel_rfl) Tryz.func12
    (ChangeSpec.witness_shaped (enc := enc) (C := Tryz.checked) (os := os) (X := fun w _ => laidMet Tryz.prog laidsP w) false (laidWorldP os) #[.int .i64 0, .int .i64 0] 8 rfl (World.shaped_of_RefB (by kernel_rfl) (by kernel_rfl)) (by kernel_rfl) (by kernel_rfl) (by kernel_rfl) (laidWorldP_met os _)) ?_
  intro W base args ds gs before hval0 hW hcnd hLd hsh
  obtain ⟨L1, L2, L3, m, S⟩ := startP hLd hsh
  have hval : ∀ (j : Nat) t v, Tryz.f12.params[j]? = some t → args[j]? = some v → Value.okWide Tryz.prog W .any base t v := hval0
  have hW' := hW
  obtain ⟨p, q, hA0, hV, rfl, hfz, hnd⟩ := hW
  have hA : DataW.TrodAll enc Tryz.prog W 0 (fun _ => true) true Tryz.f12.params.toList args.toList ds p := hA0
  rw [Tryz.params12] at hA hval
  obtain ⟨v0, v1, d0, d1, p0, p1, rfl, rfl, rfl, h0, h1⟩ := trodAll_two hA
  obtain ⟨rfl, rfl⟩ := trodVars_none hV
  obtain ⟨x0, rfl, rfl, rfl, w0⟩ := open_int Tryz.underlying3 (hval 0 3 v0 rfl rfl) h0
  obtain ⟨x1, rfl, rfl, rfl, w1⟩ := open_int Tryz.underlying3 (hval 1 3 v1 rfl rfl) h1
  clear hA0 hval0
  simp only [List.append_nil] at hW'
  have w0' := w0
  simp only [Lit.wf, Bool.and_eq_true, decide_eq_true_eq] at w0'
  have h0l : -9223372036854775808 ≤ x0 := by have := w0'.1; simp [IntKind.min, IntKind.bits, IntKind.signed] at this; omega
  have h0u : x0 < 9223372036854775808 := by have := w0'.2; simp [IntKind.max, IntKind.bits, IntKind.signed] at this; omega
  have w1' := w1
  simp only [Lit.wf, Bool.and_eq_true, decide_eq_true_eq] at w1'
  have h1l : -9223372036854775808 ≤ x1 := by have := w1'.1; simp [IntKind.min, IntKind.bits, IntKind.signed] at this; omega
  have h1u : x1 < 9223372036854775808 := by have := w1'.2; simp [IntKind.max, IntKind.bits, IntKind.signed] at this; omega
  have hcalls := law_ro (f := 12) rfl (args := [.int .i64 x0, .int .i64 x1]) (args' := [.int .i64 x0, .int .i64 x1]) (.cons (.int _ _) (.cons (.int _ _) .nil)) hP_ro (order_ac x0 x1 (fun _ => rfl)) (P_start S)
  refine hcalls.mono fun e W' ⟨he, hb⟩ => ?_
  subst he
  exact ⟨_, rfl, post_of_plain hW' (fun _ _ _ => trodAll_mk1 (shut_bool Tryz.underlying4 true)) (fun sp => trodAll_mk2 (shut_int Tryz.underlying3 w0) (shut_int Tryz.underlying3 w1)) (fun _ => rfl) hb (ok_one (by kernel_rfl) rfl (okWide_bool_mk Tryz.underlying4 true))⟩
theorem parseOrder_holds : Rows.ParseOrderSaid :=
  OpenClaim.holds_of_wide 12 Tryz.f12 rfl rfl rfl rfl rfl rfl rfl ⟨rfl, rfl, rfl, rfl, rfl⟩ rfl rfl rfl rfl rfl (by kernel_rfl) Tryz.func12 (by kernel_rfl)
    (of_decide_eq_true (by kernel_rfl)) (by unfold Func.isWrapper; first | (rw [if_pos (by decide +kernel)]; kernel_rfl) | (rw [if_neg (by decide +kernel)]; exact ⟨rfl, rfl⟩))
    (fun os started H enc _ => parseOrder_lifted os started H enc)

theorem parseOrderCard_holds : Rows.ParseOrderCardSaid :=
  Claim7.holds_tied_plain_at .later [] [.data, .data, .data, .widerDeep, .widerDeep, .widerDeep] true (true, "940a08ca661267cf0838873448a6070153acbc0a0ad72a3c6dd6014d7f7e68da") false
    parseOrder_holds (fun _ h => by cases h) (by kernel_rfl) (fun _ h => by cases h) parseOrder_row_tie rfl ⟨rfl, rfl⟩ (by kernel_rfl) rfl
    (fun f fn hf hfn => by
      obtain rfl : f = 12 := Option.some.inj ((show Tryz.prog.funcNamed "scribe/scribelaw13.ParseOrder" = some 12 by kernel_rfl).symm.trans hf) |>.symm
      obtain rfl : fn = Tryz.f12 := (Option.some.inj (Tryz.func12.symm.trans hfn)).symm
      refine ⟨by kernel_rfl, fun j t ht => ?_⟩
      rw [Tryz.params12] at ht
      have h3 : t = 3 := by
        rcases j with _ | _ | j <;> simp at ht <;> simp [← ht]
      subst h3
      · exact (show Tryz.prog.wantsStandIn 3 = false by kernel_rfl))
    (by kernel_rfl)
end Go.Proofs.YtkfbldogmgofoaaGreatDoor
