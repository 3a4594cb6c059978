/- JournalDrops: for every input the law's function returns true and its arguments read as before. -/
import Derived.Test.YtijipnkdabdioabGreatDoorJ9
import Derived.Test.YtijipnkdabdioabGreatDoorLJ
set_option linter.unusedSimpArgs false
set_option linter.unusedVariables false
namespace Go.Proofs.YtijipnkdabdioabGreatDoor
open Mir Go.ChangeShapes Go.WideShapes Go.ChangeAt Go.RowKit
open Go.ChangeMaps (open_string shut_string)
set_option maxRecDepth 100000 in
theorem journalDrops_lifted (os : Os) (started : os.Started) (H : Type) (enc : TypeId × Value → H) :
    ReturnsInHanded {} Tryz.checked os 3 .any (fun w args => (Rows.journalDropsSpec.pre enc Tryz.prog Tryz.f3 Rows.journalDropsRow.domain false w args ∧ laidMet Tryz.prog laids w) ∧ sizedMet enc Tryz.prog Tryz.f3 (OpenSpec.ofChange Rows.journalDropsSpec) false w args) (Rows.journalDropsSpec.post enc Tryz.prog Tryz.f3 false true false false) := by
  refine returnsInHanded_of_change_and (C := Tryz.checked) (X := fun w _ => laidMet Tryz.prog laids w) (fun _ _ _ hh h => h.of_heap hh) Tryz.own started (by kernel_rfl) Tryz.func3
    (ChangeSpec.witness_at (enc := enc) (C := Tryz.checked) (os := os) (X := fun w _ => laidMet Tryz.prog laids w) false (laidWorld os) #[.string ⟨#[]⟩, .int .i64 0, .slice none 0 0] 8 rfl (by kernel_rfl) (by kernel_rfl) (by kernel_rfl) (by kernel_rfl) (by kernel_rfl) (laidWorld_met os _)) ?_
  intro W base args ds gs before hval0 hW hcnd _ hLd _
  have hval : ∀ (j : Nat) t v, Tryz.f3.params[j]? = some t → args[j]? = some v → Value.okWide Tryz.prog W .any base t v := hval0
  have hW' := hW
  obtain ⟨p, q, hA0, hV, rfl, hfz, hnd⟩ := hW
  have hA : DataW.TrodAll enc Tryz.prog W 0 (fun _ => true) true Tryz.f3.params.toList args.toList ds p := hA0
  rw [Tryz.params3] at hA hval
  obtain ⟨v0, v1, v2, d0, d1, d2, p0, p1, p2, rfl, rfl, rfl, h0, h1, h2⟩ := trodAll_three hA
  obtain ⟨rfl, rfl⟩ := trodVars_none hV
  obtain ⟨s0, rfl, rfl, rfl, w0⟩ := open_string Tryz.underlying9 (hval 0 9 v0 rfl rfl) h0
  obtain ⟨x1, rfl, rfl, rfl, w1⟩ := open_int Tryz.underlying3 (hval 1 3 v1 rfl rfl) h1
  have h2k := h2
  obtain ⟨L2, o2, sv2, x2, q2, r2, u2, t2⟩ := open_numsB Tryz.underlying22 Tryz.underlying3 (by kernel_rfl) (hval 2 22 v2 rfl rfl) h2 (2 * (Tryz.prog.globals.size + 0))
  clear hA0 hval0
  simp only [List.append_nil] at hW'
  let x0 : List UInt8 := s0.data.toList
  have w1' := w1
  simp only [Lit.wf, Bool.and_eq_true, decide_eq_true_eq] at w1'
  have h1l : -9223372036854775808 ≤ x1 := by have := w1'.1; simp [IntKind.min, IntKind.bits, IntKind.signed] at this; omega
  have h1u : x1 < 9223372036854775808 := by have := w1'.2; simp [IntKind.max, IntKind.bits, IntKind.signed] at this; omega
  try simp only [List.append_nil, List.nil_append] at hW'
  have I2 := t2 (hLP [(L2, o2)]) (hLP_at rfl)
  have hok : ∀ p ∈ ([(L2, o2)] : List Piece), PieceOk W p := by
    intro p hp
    simp only [List.mem_cons, List.not_mem_nil, or_false] at hp
    rcases hp with rfl
    · exact q2
  have hlt := hW'.lt
  have hcalls := law_callsLP (f := 3) rfl (args := [.str s0.data.toList, .int .i64 x1, sv2]) (args' := [.string s0, .int .i64 x1, v2]) (ps := [(L2, o2)]) hok (.cons (vr_string _) (.cons (.int _ _) (.cons (r2 _ (muLP_at rfl)) .nil))) (drops_ac x0 x1 h1u sv2 x2 I2 hLP_pow hLP_err rfl) hLd
  refine hcalls.mono fun e W' ⟨he, hb⟩ => ?_
  subst he
  exact ⟨_, rfl, post_of_below (pv := []) hW' (fun _ _ _ => trodAll_mk1 (shut_bool Tryz.underlying4 true)) (fun sp hsp => trodAll_mk3 (shut_string Tryz.underlying9 w0) (shut_int Tryz.underlying3 w1) (WideElems.Trod_stays Tryz.laidOut (by kernel_rfl) (of_decide_eq_true (by kernel_rfl)) h2k (fun x hx => hb.same (hlt x (by simp [hx]))) (fun x hx => hsp x (by simp [hx])))) (fun _ _ => rfl) (by simp) hb (ok_one (by kernel_rfl) rfl (okWide_bool_mk Tryz.underlying4 true))⟩
theorem journalDrops_holds : Rows.JournalDropsSaid :=
  OpenClaim.holds_of_wide 3 Tryz.f3 rfl rfl rfl rfl rfl rfl rfl ⟨rfl, rfl, rfl, rfl, rfl⟩ rfl rfl rfl rfl rfl (by kernel_rfl) Tryz.func3 (by kernel_rfl)
    (of_decide_eq_true (by kernel_rfl)) (by unfold Func.isWrapper; first | (rw [if_pos (by decide +kernel)]; kernel_rfl) | (rw [if_neg (by decide +kernel)]; exact ⟨rfl, rfl⟩))
    (fun os started H enc _ => journalDrops_lifted os started H enc)

theorem journalDropsCard_holds : Rows.JournalDropsCardSaid :=
  Claim7.holds_tied_plain_at .later [] [.data, .data, .data, .sentinel, .sentinel] true (true, "b9a4e89c5c9842b1f94774752945909be82807c765f302146214d701490345bc") true
    journalDrops_holds (fun _ h => by cases h) (by kernel_rfl) (fun _ h => by cases h) journalDrops_row_tie rfl ⟨rfl, rfl⟩ (by kernel_rfl) rfl
    (fun f fn hf hfn => by
      obtain rfl : f = 3 := Option.some.inj ((show Tryz.prog.funcNamed "scribe/scribelaw04.JournalDrops" = some 3 by kernel_rfl).symm.trans hf) |>.symm
      obtain rfl : fn = Tryz.f3 := (Option.some.inj (Tryz.func3.symm.trans hfn)).symm
      refine ⟨by kernel_rfl, fun j t ht => ?_⟩
      rw [Tryz.params3] at ht
      have h3 : t = 9 ∨ t = 3 ∨ t = 22 := by
        rcases j with _ | _ | _ | j <;> simp at ht <;> simp [← ht]
      rcases h3 with rfl | rfl | rfl
      · exact (show Tryz.prog.wantsStandIn 9 = false by kernel_rfl)
      · exact (show Tryz.prog.wantsStandIn 3 = false by kernel_rfl)
      · exact (show Tryz.prog.wantsStandIn 22 = false by kernel_rfl))
    (by kernel_rfl)
end Go.Proofs.YtijipnkdabdioabGreatDoor
