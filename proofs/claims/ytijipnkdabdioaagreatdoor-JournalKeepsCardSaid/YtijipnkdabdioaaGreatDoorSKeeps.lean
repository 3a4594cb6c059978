/- JournalKeeps: for every input the law's function returns true and its arguments read as before. -/
import Derived.Test.YtijipnkdabdioaaGreatDoorJ7
import Derived.Test.YtijipnkdabdioaaGreatDoorLJ
set_option linter.unusedSimpArgs false
set_option linter.unusedVariables false
namespace Go.Proofs.YtijipnkdabdioaaGreatDoor
open Mir Go.ChangeShapes Go.WideShapes Go.ChangeAt Go.RowKit
open Go.ChangeMaps (open_string shut_string)
set_option maxRecDepth 100000 in
theorem journalKeeps_lifted (os : Os) (started : os.Started) (H : Type) (enc : TypeId × Value → H) :
    ReturnsInHanded {} Tryz.checked os 3 .any (fun w args => (Rows.journalKeepsSpec.pre enc Tryz.prog Tryz.f3 Rows.journalKeepsRow.domain false w args ∧ laidMet Tryz.prog laids w) ∧ sizedMet enc Tryz.prog Tryz.f3 (OpenSpec.ofChange Rows.journalKeepsSpec) false w args) (Rows.journalKeepsSpec.post enc Tryz.prog Tryz.f3 false true false false) := by
  refine returnsInHanded_of_change_and (C := Tryz.checked) (X := fun w _ => laidMet Tryz.prog laids w) (fun _ _ _ hh h => h.of_heap hh) Tryz.own started (by kernel_rfl) Tryz.func3
    (ChangeSpec.witness_at (enc := enc) (C := Tryz.checked) (os := os) (X := fun w _ => laidMet Tryz.prog laids w) false (laidWorld os) #[.slice none 0 0, .slice none 0 0, .slice none 0 0, .bool false] 8 rfl (by kernel_rfl) (by kernel_rfl) (by kernel_rfl) (by kernel_rfl) (by kernel_rfl) (laidWorld_met os _)) ?_
  intro W base args ds gs before hval0 hW hcnd _ hLd _
  have hval : ∀ (j : Nat) t v, Tryz.f3.params[j]? = some t → args[j]? = some v → Value.okWide Tryz.prog W .any base t v := hval0
  have hW' := hW
  obtain ⟨p, q, hA0, hV, rfl, hfz, hnd⟩ := hW
  have hA : DataW.TrodAll enc Tryz.prog W 0 (fun _ => true) true Tryz.f3.params.toList args.toList ds p := hA0
  rw [Tryz.params3] at hA hval
  obtain ⟨v0, v1, v2, v3, d0, d1, d2, d3, p0, p1, p2, p3, rfl, rfl, rfl, h0, h1, h2, h3⟩ := trodAll_four hA
  obtain ⟨rfl, rfl⟩ := trodVars_none hV
  have h0k := h0
  obtain ⟨L0, o0, sv0, x0, q0, r0, t0⟩ := open_txts Tryz.underlying22 Tryz.underlying9 (by kernel_rfl) (hval 0 22 v0 rfl rfl) h0 (2 * (Tryz.prog.globals.size + 0))
  have h1k := h1
  obtain ⟨L1, o1, sv1, x1, q1, r1, u1, t1⟩ := open_numsB Tryz.underlying23 Tryz.underlying3 (by kernel_rfl) (hval 1 23 v1 rfl rfl) h1 (2 * (Tryz.prog.globals.size + 1))
  have h2k := h2
  obtain ⟨L2, o2, sv2, x2, q2, r2, u2, t2⟩ := open_numsB Tryz.underlying23 Tryz.underlying3 (by kernel_rfl) (hval 2 23 v2 rfl rfl) h2 (2 * (Tryz.prog.globals.size + 2))
  obtain ⟨x3, rfl, rfl, rfl⟩ := open_bool Tryz.underlying4 (hval 3 4 v3 rfl rfl) h3
  clear hA0 hval0
  simp only [List.append_nil] at hW'
  try simp only [List.append_nil, List.nil_append] at hW'
  have I0 := t0 (hLP [(L0, o0), (L1, o1), (L2, o2)]) (hLP_at rfl)
  have I1 := t1 (hLP [(L0, o0), (L1, o1), (L2, o2)]) (hLP_at rfl)
  have I2 := t2 (hLP [(L0, o0), (L1, o1), (L2, o2)]) (hLP_at rfl)
  have hok : ∀ p ∈ ([(L0, o0), (L1, o1), (L2, o2)] : List Piece), PieceOk W p := by
    intro p hp
    simp only [List.mem_cons, List.not_mem_nil, or_false] at hp
    rcases hp with rfl | rfl | rfl
    · exact q0
    · exact q1
    · exact q2
  have hlt := hW'.lt
  have hcalls := law_callsLP (f := 3) rfl (args := [sv0, sv1, sv2, .bool x3]) (args' := [v0, v1, v2, .bool x3]) (ps := [(L0, o0), (L1, o1), (L2, o2)]) hok (.cons (r0 _ (muLP_at rfl)) (.cons (r1 _ (muLP_at rfl)) (.cons (r2 _ (muLP_at rfl)) (.cons (.bool _) .nil)))) (keeps_ac sv0 x0 I0 sv1 x1 I1 (fun x hx => (u1 x hx).2) sv2 x2 I2 x3 hLP_pow hLP_err rfl) hLd
  refine hcalls.mono fun e W' ⟨he, hb⟩ => ?_
  subst he
  exact ⟨_, rfl, post_of_below (pv := []) hW' (fun _ _ _ => trodAll_mk1 (shut_bool Tryz.underlying4 true)) (fun sp hsp => trodAll_mk4 (WideElems.Trod_stays Tryz.laidOut (by kernel_rfl) (of_decide_eq_true (by kernel_rfl)) h0k (fun x hx => hb.same (hlt x (by simp [hx]))) (fun x hx => hsp x (by simp [hx]))) (WideElems.Trod_stays Tryz.laidOut (by kernel_rfl) (of_decide_eq_true (by kernel_rfl)) h1k (fun x hx => hb.same (hlt x (by simp [hx]))) (fun x hx => hsp x (by simp [hx]))) (WideElems.Trod_stays Tryz.laidOut (by kernel_rfl) (of_decide_eq_true (by kernel_rfl)) h2k (fun x hx => hb.same (hlt x (by simp [hx]))) (fun x hx => hsp x (by simp [hx]))) (shut_bool Tryz.underlying4 x3)) (fun _ _ => rfl) (by simp) hb (ok_one (by kernel_rfl) rfl (okWide_bool_mk Tryz.underlying4 true))⟩
theorem journalKeeps_holds : Rows.JournalKeepsSaid :=
  OpenClaim.holds_of_wide 3 Tryz.f3 rfl rfl rfl rfl rfl rfl rfl ⟨rfl, rfl, rfl, rfl, rfl⟩ rfl rfl rfl rfl rfl (by kernel_rfl) Tryz.func3 (by kernel_rfl)
    (of_decide_eq_true (by kernel_rfl)) (by unfold Func.isWrapper; first | (rw [if_pos (by decide +kernel)]; kernel_rfl) | (rw [if_neg (by decide +kernel)]; exact ⟨rfl, rfl⟩))
    (fun os started H enc _ => journalKeeps_lifted os started H enc)

theorem journalKeepsCard_holds : Rows.JournalKeepsCardSaid :=
  Claim7.holds_tied_plain_at .later [] [.data, .data, .data, .sentinel, .sentinel] true (true, "ab0e06e3a162743903011a1b1ee5415922cea2952388f325d6113a76f4e82d15") true
    journalKeeps_holds (fun _ h => by cases h) (by kernel_rfl) (fun _ h => by cases h) journalKeeps_row_tie rfl ⟨rfl, rfl⟩ (by kernel_rfl) rfl
    (fun f fn hf hfn => by
      obtain rfl : f = 3 := Option.some.inj ((show Tryz.prog.funcNamed "scribe/scribelaw04.JournalKeeps" = some 3 by kernel_rfl).symm.trans hf) |>.symm
      obtain rfl : fn = Tryz.f3 := (Option.some.inj (Tryz.func3.symm.trans hfn)).symm
      refine ⟨by kernel_rfl, fun j t ht => ?_⟩
      rw [Tryz.params3] at ht
      have h3 : t = 22 ∨ t = 23 ∨ t = 4 := by
        rcases j with _ | _ | _ | _ | j <;> simp at ht <;> simp [← ht]
      rcases h3 with rfl | rfl | rfl
      · exact (show Tryz.prog.wantsStandIn 22 = false by kernel_rfl)
      · exact (show Tryz.prog.wantsStandIn 23 = false by kernel_rfl)
      · exact (show Tryz.prog.wantsStandIn 4 = false by kernel_rfl))
    (by kernel_rfl)
end Go.Proofs.YtijipnkdabdioaaGreatDoor
