/- JournalSpoilt: for every input the law's function returns true and its arguments read as before. -/
import Derived.Test.YtijipnkdabdioaaDoorJ4
import Derived.Test.YtijipnkdabdioaaDoorLJ
set_option linter.unusedSimpArgs false
set_option linter.unusedVariables false
namespace Go.Proofs.YtijipnkdabdioaaDoor
open Mir Go.ChangeShapes Go.WideShapes Go.ChangeAt Go.RowKit
open Go.ChangeMaps (open_string shut_string)
set_option maxRecDepth 100000 in
theorem journalSpoilt_lifted (os : Os) (started : os.Started) (H : Type) (enc : TypeId × Value → H) :
    ReturnsInHanded {} Tryd.checked os 5 .any (fun w args => (Rows.journalSpoiltSpec.pre enc Tryd.prog Tryd.f5 Rows.journalSpoiltRow.domain false w args ∧ laidMet Tryd.prog laids w) ∧ sizedMet enc Tryd.prog Tryd.f5 (OpenSpec.ofChange Rows.journalSpoiltSpec) false w args) (Rows.journalSpoiltSpec.post enc Tryd.prog Tryd.f5 false true false false) := by
  refine returnsInHanded_of_change_and (C := Tryd.checked) (X := fun w _ => laidMet Tryd.prog laids w) (fun _ _ _ hh h => h.of_heap hh) Tryd.own started (by kernel_rfl) Tryd.func5
    (ChangeSpec.witness_at (enc := enc) (C := Tryd.checked) (os := os) (X := fun w _ => laidMet Tryd.prog laids w) false (laidWorld os) #[.string ⟨#[]⟩, .int .i64 0, .int .u8 0] 8 rfl (by kernel_rfl) (by kernel_rfl) (by kernel_rfl) (by kernel_rfl) (by kernel_rfl) (laidWorld_met os _)) ?_
  intro W base args ds gs before hval0 hW hcnd _ hLd _
  have hval : ∀ (j : Nat) t v, Tryd.f5.params[j]? = some t → args[j]? = some v → Value.okWide Tryd.prog W .any base t v := hval0
  have hW' := hW
  obtain ⟨p, q, hA0, hV, rfl, hfz, hnd⟩ := hW
  have hA : DataW.TrodAll enc Tryd.prog W 0 (fun _ => true) true Tryd.f5.params.toList args.toList ds p := hA0
  rw [Tryd.params5] at hA hval
  obtain ⟨v0, v1, v2, d0, d1, d2, p0, p1, p2, rfl, rfl, rfl, h0, h1, h2⟩ := trodAll_three hA
  obtain ⟨rfl, rfl⟩ := trodVars_none hV
  obtain ⟨s0, rfl, rfl, rfl, w0⟩ := open_string Tryd.underlying9 (hval 0 9 v0 rfl rfl) h0
  obtain ⟨x1, rfl, rfl, rfl, w1⟩ := open_int Tryd.underlying3 (hval 1 3 v1 rfl rfl) h1
  obtain ⟨x2, rfl, rfl, rfl, w2⟩ := open_int Tryd.underlying5 (hval 2 5 v2 rfl rfl) h2
  clear hA0 hval0
  simp only [List.append_nil] at hW'
  let x0 : List UInt8 := s0.data.toList
  have w1' := w1
  simp only [Lit.wf, Bool.and_eq_true, decide_eq_true_eq] at w1'
  have h1l : -9223372036854775808 ≤ x1 := by have := w1'.1; simp [IntKind.min, IntKind.bits, IntKind.signed] at this; omega
  have h1u : x1 < 9223372036854775808 := by have := w1'.2; simp [IntKind.max, IntKind.bits, IntKind.signed] at this; omega
  have w2' := w2
  simp only [Lit.wf, Bool.and_eq_true, decide_eq_true_eq] at w2'
  have h2l : 0 ≤ x2 := by have := w2'.1; simp [IntKind.min, IntKind.bits, IntKind.signed] at this; omega
  have h2u : x2 < 256 := by have := w2'.2; simp [IntKind.max, IntKind.bits, IntKind.signed] at this; omega
  obtain ⟨y2, e2⟩ : ∃ c : UInt8, x2 = (c.toNat : Int) := ⟨UInt8.ofNat x2.toNat, by rw [UInt8.toNat_ofNat_of_lt' (by have : x2.toNat < 256 := (by omega); exact this)]; omega⟩
  subst e2
  have hcalls := law_callsL (f := 5) rfl (args := [.str s0.data.toList, .int .i64 x1, .int .u8 (y2.toNat : Nat)]) (args' := [.string s0, .int .i64 x1, .int .u8 (y2.toNat : Nat)]) (fun μ => (.cons (by have := VR.str (μ := μ) s0.data.toList; simpa using this) (.cons (.int _ _) (.cons (.int _ _) .nil)))) (spoilt_ac x0 x1 y2 hL_pow hL_err rfl) hLd
  refine hcalls.mono fun e W' ⟨he, hb⟩ => ?_
  subst he
  exact ⟨_, rfl, post_of_plain hW' (fun _ _ _ => trodAll_mk1 (shut_bool Tryd.underlying4 true)) (fun sp => trodAll_mk3 (shut_string Tryd.underlying9 w0) (shut_int Tryd.underlying3 w1) (shut_int Tryd.underlying5 w2)) (fun _ => rfl) hb (ok_one (by kernel_rfl) rfl (okWide_bool_mk Tryd.underlying4 true))⟩
theorem journalSpoilt_holds : Rows.JournalSpoiltSaid :=
  OpenClaim.holds_of_wide 5 Tryd.f5 rfl rfl rfl rfl rfl rfl rfl ⟨rfl, rfl, rfl, rfl, rfl⟩ rfl rfl rfl rfl rfl (by kernel_rfl) Tryd.func5 (by kernel_rfl)
    (of_decide_eq_true (by kernel_rfl)) (by unfold Func.isWrapper; first | (rw [if_pos (by decide +kernel)]; kernel_rfl) | (rw [if_neg (by decide +kernel)]; exact ⟨rfl, rfl⟩))
    (fun os started H enc _ => journalSpoilt_lifted os started H enc)

theorem journalSpoiltCard_holds : Rows.JournalSpoiltCardSaid :=
  Claim7.holds_tied_plain_at .later [] [.data, .data, .data, .sentinel, .sentinel] true (true, "ff3785fec14cff7f6d872a948a0535b05e0d970e2535a086cdb6fe7aff75182a") true
    journalSpoilt_holds (fun _ h => by cases h) (by kernel_rfl) (fun _ h => by cases h) journalSpoilt_row_tie rfl ⟨rfl, rfl⟩ (by kernel_rfl) rfl
    (fun f fn hf hfn => by
      obtain rfl : f = 5 := Option.some.inj ((show Tryd.prog.funcNamed "scribe/scribelaw04.JournalSpoilt" = some 5 by kernel_rfl).symm.trans hf) |>.symm
      obtain rfl : fn = Tryd.f5 := (Option.some.inj (Tryd.func5.symm.trans hfn)).symm
      refine ⟨by kernel_rfl, fun j t ht => ?_⟩
      rw [Tryd.params5] at ht
      have h3 : t = 9 ∨ t = 3 ∨ t = 5 := by
        rcases j with _ | _ | _ | j <;> simp at ht <;> simp [← ht]
      rcases h3 with rfl | rfl | rfl
      · exact (show Tryd.prog.wantsStandIn 9 = false by kernel_rfl)
      · exact (show Tryd.prog.wantsStandIn 3 = false by kernel_rfl)
      · exact (show Tryd.prog.wantsStandIn 5 = false by kernel_rfl))
    (by kernel_rfl)
end Go.Proofs.YtijipnkdabdioaaDoor
