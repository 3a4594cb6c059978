/- Resolve: closed runs. -/
import Derived.Test.YtkfbldogmgofoaaGreatDoorRI
set_option linter.unusedSimpArgs false
set_option linter.unusedVariables false
namespace Go.Proofs.YtkfbldogmgofoaaGreatDoor
open Mir
variable {h : H} {Q : V → H → Prop} {m : Int}
noncomputable def isTrue (v : V) : Bool := match v with | .bool b => b | _ => false
noncomputable def isBad (v : V) : Bool := match v with | .tup [.nilptr, .int .i64 _, .int .i64 e] => iEq e 9 | _ => false
noncomputable def isGood (v : V) : Bool := match v with | .tup [.ptr _ _, .int .i64 _, .int .i64 e] => iEq e 0 | _ => false
theorem isTrue_of {f : Nm} {v w : V} (h : isTrue v = true) (hv : VI f v w) : w = .bool true := by
  unfold isTrue at h
  split at h
  · subst h; exact hv.inv
  · cases h
theorem three_of {f : Nm} {a b c w : V} (hv : VI f (.tup [a, b, c]) w) : ∃ x y z, w = .tup [x, y, z] ∧ VI f a x ∧ VI f b y ∧ VI f c z := by
  obtain ⟨l, rfl, h⟩ := hv.inv
  obtain ⟨x, l, rfl, h1, h⟩ := h.cons_inv
  obtain ⟨y, l, rfl, h2, h⟩ := h.cons_inv
  obtain ⟨z, l, rfl, h3, h⟩ := h.cons_inv
  rw [h.nil_inv]
  exact ⟨x, y, z, rfl, h1, h2, h3⟩
theorem isBad_of {f : Nm} {v w : V} (h : isBad v = true) (hv : VI f v w) : ∃ n, w = .tup [.nilptr, .int .i64 n, .int .i64 9] := by
  unfold isBad at h
  split at h
  · rename_i n e
    obtain ⟨x, y, z, rfl, h1, h2, h3⟩ := three_of hv
    have h1 := h1.inv; have h2 := h2.inv; have h3 := h3.inv
    simp only at h1 h2 h3
    rw [iEq_eq, beq_iff_eq] at h
    exact ⟨n, by rw [h1, h2, h3, h]⟩
  · cases h
theorem isGood_of {f : Nm} {v w : V} (h : isGood v = true) (hv : VI f v w) : ∃ b o n, w = .tup [.ptr b o, .int .i64 n, .int .i64 0] := by
  unfold isGood at h
  split at h
  · rename_i b o n e
    obtain ⟨x, y, z, rfl, h1, h2, h3⟩ := three_of hv
    obtain ⟨b', _, h1⟩ := h1.inv
    have h2 := h2.inv; have h3 := h3.inv
    simp only at h1 h2 h3
    rw [iEq_eq, beq_iff_eq] at h
    exact ⟨b', o, n, by rw [h1, h2, h3, h]⟩
  · cases h
theorem awake14_run : quick ip B0 15 [] 1000 isTrue = true := by kernel_rfl
theorem awake14_ac (hs : Sub (hR m) h) (hq : ∀ h', Sub h h' → Q (.bool true) h') : AC pg (.fn 15) [] h Q :=
  closed awake14_run rfl hs fun f v w h' hp hv hk => by rw [isTrue_of hp hv]; exact hq h' hk
theorem stray0 : quick ip B0 20 [.str [66, 69, 71, 73, 78, 123, 98, 114, 101, 97, 107, 125]] 1000 isBad = true := by kernel_rfl
theorem stray1 : quick ip B0 20 [.str [123, 105, 102, 40, 49, 41, 99, 111, 110, 116, 105, 110, 117, 101, 125]] 1000 isBad = true := by kernel_rfl
theorem stray2 : quick ip B0 20 [.str [123, 114, 101, 116, 117, 114, 110, 125]] 1000 isBad = true := by kernel_rfl
theorem stray3 : quick ip B0 20 [.str [66, 69, 71, 73, 78, 123, 110, 101, 120, 116, 125]] 1000 isBad = true := by kernel_rfl
theorem stray4 : quick ip B0 20 [.str [102, 117, 110, 99, 116, 105, 111, 110, 32, 102, 40, 41, 123, 110, 101, 120, 116, 125]] 1000 isBad = true := by kernel_rfl
theorem stray5 : quick ip B0 20 [.str [69, 78, 68, 123, 119, 104, 105, 108, 101, 40, 49, 41, 98, 114, 101, 97, 107, 59, 98, 114, 101, 97, 107, 125]] 1000 isBad = true := by kernel_rfl
theorem stray_good : quick ip B0 20 [.str [102, 117, 110, 99, 116, 105, 111, 110, 32, 102, 40, 41, 123, 119, 104, 105, 108, 101, 40, 49, 41, 123, 98, 114, 101, 97, 107, 125, 114, 101, 116, 117, 114, 110, 32, 49, 125, 32, 123, 102, 111, 114, 40, 59, 59, 41, 99, 111, 110, 116, 105, 110, 117, 101, 59, 110, 101, 120, 116, 125]] 1000 isGood = true := by kernel_rfl
end Go.Proofs.YtkfbldogmgofoaaGreatDoor
