/- DiskPieces: for every input the law's function returns true and its arguments read as before. -/
import Derived.Test.YtijipnkdabdioaaD12
import Derived.Test.YtijipnkdabdioaaL2
set_option linter.unusedSimpArgs false
set_option linter.unusedVariables false
namespace Go.Proofs.Ytijipnkdabdioaa
open Mir Go.ChangeShapes Go.WideShapes Go.ChangeAt Go.RowKit
open Go.ChangeMaps (open_string shut_string)
set_option maxRecDepth 100000 in
theorem diskPieces_lifted (os : Os) (started : os.Started) (H : Type) (enc : TypeId × Value → H) :
    ReturnsInHanded {} Try.checked os 6 .any (Rows.diskPiecesSpec.pre6 enc Try.prog Try.f6 Rows.diskPiecesRow.domain false) (Rows.diskPiecesSpec.post enc Try.prog Try.f6 false true false false) := by
  refine returnsInHanded_of_change (C := Try.checked) Try.own started (by kernel_rfl) Try.func6
    (ChangeSpec.witness6 (enc := enc) (C := Try.checked) false ⟨#[], #[.slice none 0 0, .int .i64 0, .int .i64 0], []⟩ 8 (by kernel_rfl) (by kernel_rfl) (by kernel_rfl) (by kernel_rfl)) ?_
  intro W base args ds gs before hval0 hW hcnd _
  have hval : ∀ (j : Nat) t v, Try.f6.params[j]? = some t → args[j]? = some v → Value.okWide Try.prog W .any base t v := hval0
  have hW' := hW
  obtain ⟨p, q, hA0, hV, rfl, hfz, hnd⟩ := hW
  have hA : DataW.TrodAll enc Try.prog W 0 (fun _ => true) true Try.f6.params.toList args.toList ds p := hA0
  rw [Try.params6] at hA hval
  obtain ⟨v0, v1, v2, d0, d1, d2, p0, p1, p2, rfl, rfl, rfl, h0, h1, h2⟩ := trodAll_three hA
  obtain ⟨rfl, rfl⟩ := trodVars_none hV
  have h0k := h0
  obtain ⟨L0, o0, sv0, x0, q0, r0, t0⟩ := open_txts Try.underlying40 Try.underlying9 (by kernel_rfl) (hval 0 40 v0 rfl rfl) h0 (Try.prog.globals.size + 0)
  obtain ⟨x1, rfl, rfl, rfl, w1⟩ := open_int Try.underlying3 (hval 1 3 v1 rfl rfl) h1
  obtain ⟨x2, rfl, rfl, rfl, w2⟩ := open_int Try.underlying3 (hval 2 3 v2 rfl rfl) h2
  clear hA0 hval0
  simp only [List.append_nil] at hW'
  have w1' := w1
  simp only [Lit.wf, Bool.and_eq_true, decide_eq_true_eq] at w1'
  have h1l : -9223372036854775808 ≤ x1 := by have := w1'.1; simp [IntKind.min, IntKind.bits, IntKind.signed] at this; omega
  have h1u : x1 < 9223372036854775808 := by have := w1'.2; simp [IntKind.max, IntKind.bits, IntKind.signed] at this; omega
  have w2' := w2
  simp only [Lit.wf, Bool.and_eq_true, decide_eq_true_eq] at w2'
  have h2l : -9223372036854775808 ≤ x2 := by have := w2'.1; simp [IntKind.min, IntKind.bits, IntKind.signed] at this; omega
  have h2u : x2 < 9223372036854775808 := by have := w2'.2; simp [IntKind.max, IntKind.bits, IntKind.signed] at this; omega
  try simp only [List.append_nil, List.nil_append] at hW'
  have I0 := t0 (hOf Try.prog.globals.size [(L0, o0)]) (by simp [hOf])
  have hok : ∀ p ∈ ([(L0, o0)] : List Piece), PieceOk W p := by
    intro p hp
    simp only [List.mem_cons, List.not_mem_nil, or_false] at hp
    rcases hp with rfl
    · exact q0
  have hlt := hW'.lt
  have hcalls := law_calls2 (f := 6) rfl (args := [sv0, .int .i64 x1, .int .i64 x2]) (args' := [v0, .int .i64 x1, .int .i64 x2]) (ps := [(L0, o0)]) hok (.cons (r0 _ (by simp [muOf])) (.cons (.int _ _) (.cons (.int _ _) .nil))) (diskPieces_ac sv0 x0 x1 x2 I0 ⟨h2l, h2u⟩ rfl)
  refine hcalls.mono fun e W' ⟨he, hb⟩ => ?_
  subst he
  exact ⟨_, rfl, post_of_below (pv := []) hW' (fun _ _ _ => trodAll_mk1 (shut_bool Try.underlying4 true)) (fun sp hsp => trodAll_mk3 (WideElems.Trod_stays Try.laidOut (by kernel_rfl) (of_decide_eq_true (by kernel_rfl)) h0k (fun x hx => hb.same (hlt x (by simp [hx]))) (fun x hx => hsp x (by simp [hx]))) (shut_int Try.underlying3 w1) (shut_int Try.underlying3 w2)) (fun _ _ => rfl) (by simp) hb (ok_one (by kernel_rfl) rfl (okWide_bool_mk Try.underlying4 true))⟩
theorem diskPieces_holds : Rows.DiskPiecesSaid :=
  OpenClaim.holds_of_wide 6 Try.f6 rfl rfl rfl rfl rfl rfl rfl ⟨rfl, rfl, rfl, rfl, rfl⟩ rfl rfl rfl rfl rfl (by kernel_rfl) Try.func6 (by kernel_rfl)
    (of_decide_eq_true (by kernel_rfl)) (by unfold Func.isWrapper; first | (rw [if_pos (by decide +kernel)]; kernel_rfl) | (rw [if_neg (by decide +kernel)]; exact ⟨rfl, rfl⟩))
    (fun os started H enc _ => diskPieces_lifted os started H enc)
end Go.Proofs.Ytijipnkdabdioaa
