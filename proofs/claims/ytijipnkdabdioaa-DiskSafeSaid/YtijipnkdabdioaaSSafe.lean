/- DiskSafe: for every input the law's function returns true and its arguments read as before. -/
import Derived.Test.YtijipnkdabdioaaD14
import Derived.Test.YtijipnkdabdioaaL3
set_option linter.unusedSimpArgs false
set_option linter.unusedVariables false
namespace Go.Proofs.Ytijipnkdabdioaa
open Mir Go.ChangeShapes Go.WideShapes Go.ChangeAt Go.RowKit
open Go.ChangeMaps (open_string shut_string)
set_option maxRecDepth 100000 in
theorem diskSafe_lifted (os : Os) (started : os.Started) (H : Type) (enc : TypeId × Value → H) :
    ReturnsInHanded {} Try.checked os 8 .any (Rows.diskSafeSpec.pre6 enc Try.prog Try.f8 Rows.diskSafeRow.domain false) (Rows.diskSafeSpec.post enc Try.prog Try.f8 false true false false) := by
  refine returnsInHanded_of_change (C := Try.checked) Try.own started (by kernel_rfl) Try.func8
    (ChangeSpec.witness6 (enc := enc) (C := Try.checked) false ⟨#[], #[.string ⟨#[]⟩, .string ⟨#[]⟩, .slice none 0 0, .slice none 0 0, .bool false], []⟩ 8 (by kernel_rfl) (by kernel_rfl) (by kernel_rfl) (by kernel_rfl)) ?_
  intro W base args ds gs before hval0 hW hcnd _
  have hval : ∀ (j : Nat) t v, Try.f8.params[j]? = some t → args[j]? = some v → Value.okWide Try.prog W .any base t v := hval0
  have hW' := hW
  obtain ⟨p, q, hA0, hV, rfl, hfz, hnd⟩ := hW
  have hA : DataW.TrodAll enc Try.prog W 0 (fun _ => true) true Try.f8.params.toList args.toList ds p := hA0
  rw [Try.params8] at hA hval
  obtain ⟨v0, v1, v2, v3, v4, d0, d1, d2, d3, d4, p0, p1, p2, p3, p4, rfl, rfl, rfl, h0, h1, h2, h3, h4⟩ := trodAll_five hA
  obtain ⟨rfl, rfl⟩ := trodVars_none hV
  obtain ⟨s0, rfl, rfl, rfl, w0⟩ := open_string Try.underlying9 (hval 0 9 v0 rfl rfl) h0
  obtain ⟨s1, rfl, rfl, rfl, w1⟩ := open_string Try.underlying9 (hval 1 9 v1 rfl rfl) h1
  have h2k := h2
  obtain ⟨L2, o2, sv2, x2, q2, r2, t2⟩ := open_acts (hval 2 47 v2 rfl rfl) h2 (Try.prog.globals.size + 0)
  have h3k := h3
  obtain ⟨L3, o3, sv3, x3, q3, r3, t3⟩ := open_nums Try.underlying45 Try.underlying3 (by kernel_rfl) (hval 3 45 v3 rfl rfl) h3 (Try.prog.globals.size + 1)
  obtain ⟨x4, rfl, rfl, rfl⟩ := open_bool Try.underlying4 (hval 4 4 v4 rfl rfl) h4
  clear hA0 hval0
  simp only [List.append_nil] at hW'
  let x0 : List UInt8 := s0.data.toList
  let x1 : List UInt8 := s1.data.toList
  try simp only [List.append_nil, List.nil_append] at hW'
  have I2 := t2 (hOf Try.prog.globals.size [(L2, o2), (L3, o3)]) (by simp [hOf])
  have I3 := t3 (hOf Try.prog.globals.size [(L2, o2), (L3, o3)]) (by simp [hOf])
  have hok : ∀ p ∈ ([(L2, o2), (L3, o3)] : List Piece), PieceOk W p := by
    intro p hp
    simp only [List.mem_cons, List.not_mem_nil, or_false] at hp
    rcases hp with rfl | rfl
    · exact q2
    · exact q3
  have hlt := hW'.lt
  have hcalls := law_calls2 (f := 8) rfl (args := [.str s0.data.toList, .str s1.data.toList, sv2, sv3, .bool x4]) (args' := [.string s0, .string s1, v2, v3, .bool x4]) (ps := [(L2, o2), (L3, o3)]) hok (.cons (vr_string _) (.cons (vr_string _) (.cons (r2 _ (by simp [muOf])) (.cons (r3 _ (by simp [muOf])) (.cons (.bool _) .nil))))) (diskSafe_ac x0 x1 sv2 x2 I2 sv3 x3 I3 x4 rfl)
  refine hcalls.mono fun e W' ⟨he, hb⟩ => ?_
  subst he
  exact ⟨_, rfl, post_of_below (pv := []) hW' (fun _ _ _ => trodAll_mk1 (shut_bool Try.underlying4 true)) (fun sp hsp => trodAll_mk5 (shut_string Try.underlying9 w0) (shut_string Try.underlying9 w1) (WideElems.Trod_stays Try.laidOut (by kernel_rfl) (of_decide_eq_true (by kernel_rfl)) h2k (fun x hx => hb.same (hlt x (by simp [hx]))) (fun x hx => hsp x (by simp [hx]))) (WideElems.Trod_stays Try.laidOut (by kernel_rfl) (of_decide_eq_true (by kernel_rfl)) h3k (fun x hx => hb.same (hlt x (by simp [hx]))) (fun x hx => hsp x (by simp [hx]))) (shut_bool Try.underlying4 x4)) (fun _ _ => rfl) (by simp) hb (ok_one (by kernel_rfl) rfl (okWide_bool_mk Try.underlying4 true))⟩
theorem diskSafe_holds : Rows.DiskSafeSaid :=
  OpenClaim.holds_of_wide 8 Try.f8 rfl rfl rfl rfl rfl rfl rfl ⟨rfl, rfl, rfl, rfl, rfl⟩ rfl rfl rfl rfl rfl (by kernel_rfl) Try.func8 (by kernel_rfl)
    (of_decide_eq_true (by kernel_rfl)) (by unfold Func.isWrapper; first | (rw [if_pos (by decide +kernel)]; kernel_rfl) | (rw [if_neg (by decide +kernel)]; exact ⟨rfl, rfl⟩))
    (fun os started H enc _ => diskSafe_lifted os started H enc)
end Go.Proofs.Ytijipnkdabdioaa
