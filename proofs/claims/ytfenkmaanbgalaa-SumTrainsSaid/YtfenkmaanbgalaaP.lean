/- The mirror's program of the sums. -/
import Derived.Test.YtfenkmaanbgalaaG
import Derived.Test.YtfenkmaanbgalaaMir26
namespace Go.Proofs.Ytfenkmaanbgalaa
open Mir
def fnOf : Nat → Option Mir.Fn
  | 3 => some g3 | 4 => some g4 | 5 => some g5 | 6 => some g6 | 7 => some g7 | 8 => some g8 | 9 => some g9
  | 10 => some g10 | 11 => some g11 | 12 => some g12 | 13 => some g13 | 14 => some g14 | 15 => some g15 | 16 => some g16
  | 17 => some g17 | 18 => some g18 | 19 => some g19 | 20 => some g20 | 21 => some g21
  | _ => none
def pg : Pg := ⟨fnOf, fun _ _ => none⟩
theorem pg_ok : PgOk Try.prog pg := by
  refine ⟨by kernel_rfl, fun f g hg => ?_, fun f args v hk => by cases hk⟩
  simp only [pg, fnOf] at hg
  split at hg <;> cases hg
  · exact ⟨_, Try.func3, c3, by decide⟩
  · exact ⟨_, Try.func4, c4, by decide⟩
  · exact ⟨_, Try.func5, c5, by decide⟩
  · exact ⟨_, Try.func6, c6, by decide⟩
  · exact ⟨_, Try.func7, c7, by decide⟩
  · exact ⟨_, Try.func8, c8, by decide⟩
  · exact ⟨_, Try.func9, c9, by decide⟩
  · exact ⟨_, Try.func10, c10, by decide⟩
  · exact ⟨_, Try.func11, c11, by decide⟩
  · exact ⟨_, Try.func12, c12, by decide⟩
  · exact ⟨_, Try.func13, c13, by decide⟩
  · exact ⟨_, Try.func14, c14, by decide⟩
  · exact ⟨_, Try.func15, c15, by decide⟩
  · exact ⟨_, Try.func16, c16, by decide⟩
  · exact ⟨_, Try.func17, c17, by decide⟩
  · exact ⟨_, Try.func18, c18, by decide⟩
  · exact ⟨_, Try.func19, c19, by decide⟩
  · exact ⟨_, Try.func20, c20, by decide⟩
  · exact ⟨_, Try.func21, c21, by decide⟩
end Go.Proofs.Ytfenkmaanbgalaa
