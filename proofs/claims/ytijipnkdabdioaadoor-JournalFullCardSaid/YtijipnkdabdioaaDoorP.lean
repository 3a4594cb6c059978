/- The mirror's program of the seat. -/
import Derived.Test.YtijipnkdabdioaaDoorG2
import Derived.Test.YtijipnkdabdioaaDoorMir25
namespace Go.Proofs.YtijipnkdabdioaaDoor
open Mir
def fnOf : Nat → Option Mir.Fn
  | 3 => some g3 | 4 => some g4 | 5 => some g5 | 6 => some g6 | 7 => some g7 | 8 => some g8 | 9 => some g9 | 10 => some g10
  | 11 => some g11 | 12 => some g12 | 13 => some g13 | 14 => some g14 | 15 => some g15 | 16 => some g16 | 17 => some g17 | 18 => some g18
  | 19 => some g19 | 20 => some g20 | 21 => some g21 | 22 => some g22 | 23 => some g23 | 24 => some g24 | 25 => some g25 | 26 => some g26
  | 27 => some g27 | 28 => some g28 | 29 => some g29 | 30 => some g30 | 31 => some g31 | 32 => some g32 | 33 => some g33 | 34 => some g34
  | 35 => some g35 | 36 => some g36 | 37 => some g37 | 38 => some g38 | 39 => some g39 | 40 => some g40 | 41 => some g41 | 42 => some g42
  | 43 => some g43 | 44 => some g44 | 45 => some g45 | 46 => some g46 | 47 => some g47 | 48 => some g48 | 49 => some g49 | 50 => some g50
  | 51 => some g51 | 52 => some g52 | 53 => some g53 | 54 => some g54 | 55 => some g55 | 56 => some g56 | 57 => some g57 | 58 => some g58
  | 59 => some g59 | 60 => some g60 | 62 => some g62 | 64 => some g64 | 65 => some g65 | 66 => some g66 | 67 => some g67 | 68 => some g68
  | 69 => some g69 | 70 => some g70 | 71 => some g71 | 72 => some g72 | 73 => some g73 | 75 => some g75 | 76 => some g76 | 77 => some g77
  | 78 => some g78 | 79 => some g79 | 80 => some g80 | 81 => some g81 | 82 => some g82 | 83 => some g83 | 84 => some g84 | 85 => some g85
 
  | _ => none
def pg : Pg := ⟨fnOf, fun _ _ => none⟩
set_option maxRecDepth 100000 in
theorem pg_ok : PgOk Tryd.prog pg := by
  refine ⟨by kernel_rfl, fun f g hg => ?_, fun f args v hk => by cases hk⟩
  simp only [pg, fnOf] at hg
  split at hg <;> cases hg
  · exact ⟨_, Tryd.func3, c3, by decide⟩
  · exact ⟨_, Tryd.func4, c4, by decide⟩
  · exact ⟨_, Tryd.func5, c5, by decide⟩
  · exact ⟨_, Tryd.func6, c6, by decide⟩
  · exact ⟨_, Tryd.func7, c7, by decide⟩
  · exact ⟨_, Tryd.func8, c8, by decide⟩
  · exact ⟨_, Tryd.func9, c9, by decide⟩
  · exact ⟨_, Tryd.func10, c10, by decide⟩
  · exact ⟨_, Tryd.func11, c11, by decide⟩
  · exact ⟨_, Tryd.func12, c12, by decide⟩
  · exact ⟨_, Tryd.func13, c13, by decide⟩
  · exact ⟨_, Tryd.func14, c14, by decide⟩
  · exact ⟨_, Tryd.func15, c15, by decide⟩
  · exact ⟨_, Tryd.func16, c16, by decide⟩
  · exact ⟨_, Tryd.func17, c17, by decide⟩
  · exact ⟨_, Tryd.func18, c18, by decide⟩
  · exact ⟨_, Tryd.func19, c19, by decide⟩
  · exact ⟨_, Tryd.func20, c20, by decide⟩
  · exact ⟨_, Tryd.func21, c21, by decide⟩
  · exact ⟨_, Tryd.func22, c22, by decide⟩
  · exact ⟨_, Tryd.func23, c23, by decide⟩
  · exact ⟨_, Tryd.func24, c24, by decide⟩
  · exact ⟨_, Tryd.func25, c25, by decide⟩
  · exact ⟨_, Tryd.func26, c26, by decide⟩
  · exact ⟨_, Tryd.func27, c27, by decide⟩
  · exact ⟨_, Tryd.func28, c28, by decide⟩
  · exact ⟨_, Tryd.func29, c29, by decide⟩
  · exact ⟨_, Tryd.func30, c30, by decide⟩
  · exact ⟨_, Tryd.func31, c31, by decide⟩
  · exact ⟨_, Tryd.func32, c32, by decide⟩
  · exact ⟨_, Tryd.func33, c33, by decide⟩
  · exact ⟨_, Tryd.func34, c34, by decide⟩
  · exact ⟨_, Tryd.func35, c35, by decide⟩
  · exact ⟨_, Tryd.func36, c36, by decide⟩
  · exact ⟨_, Tryd.func37, c37, by decide⟩
  · exact ⟨_, Tryd.func38, c38, by decide⟩
  · exact ⟨_, Tryd.func39, c39, by decide⟩
  · exact ⟨_, Tryd.func40, c40, by decide⟩
  · exact ⟨_, Tryd.func41, c41, by decide⟩
  · exact ⟨_, Tryd.func42, c42, by decide⟩
  · exact ⟨_, Tryd.func43, c43, by decide⟩
  · exact ⟨_, Tryd.func44, c44, by decide⟩
  · exact ⟨_, Tryd.func45, c45, by decide⟩
  · exact ⟨_, Tryd.func46, c46, by decide⟩
  · exact ⟨_, Tryd.func47, c47, by decide⟩
  · exact ⟨_, Tryd.func48, c48, by decide⟩
  · exact ⟨_, Tryd.func49, c49, by decide⟩
  · exact ⟨_, Tryd.func50, c50, by decide⟩
  · exact ⟨_, Tryd.func51, c51, by decide⟩
  · exact ⟨_, Tryd.func52, c52, by decide⟩
  · exact ⟨_, Tryd.func53, c53, by decide⟩
  · exact ⟨_, Tryd.func54, c54, by decide⟩
  · exact ⟨_, Tryd.func55, c55, by decide⟩
  · exact ⟨_, Tryd.func56, c56, by decide⟩
  · exact ⟨_, Tryd.func57, c57, by decide⟩
  · exact ⟨_, Tryd.func58, c58, by decide⟩
  · exact ⟨_, Tryd.func59, c59, by decide⟩
  · exact ⟨_, Tryd.func60, c60, by decide⟩
  · exact ⟨_, Tryd.func62, c62, by decide⟩
  · exact ⟨_, Tryd.func64, c64, by decide⟩
  · exact ⟨_, Tryd.func65, c65, by decide⟩
  · exact ⟨_, Tryd.func66, c66, by decide⟩
  · exact ⟨_, Tryd.func67, c67, by decide⟩
  · exact ⟨_, Tryd.func68, c68, by decide⟩
  · exact ⟨_, Tryd.func69, c69, by decide⟩
  · exact ⟨_, Tryd.func70, c70, by decide⟩
  · exact ⟨_, Tryd.func71, c71, by decide⟩
  · exact ⟨_, Tryd.func72, c72, by decide⟩
  · exact ⟨_, Tryd.func73, c73, by decide⟩
  · exact ⟨_, Tryd.func75, c75, by decide⟩
  · exact ⟨_, Tryd.func76, c76, by decide⟩
  · exact ⟨_, Tryd.func77, c77, by decide⟩
  · exact ⟨_, Tryd.func78, c78, by decide⟩
  · exact ⟨_, Tryd.func79, c79, by decide⟩
  · exact ⟨_, Tryd.func80, c80, by decide⟩
  · exact ⟨_, Tryd.func81, c81, by decide⟩
  · exact ⟨_, Tryd.func82, c82, by decide⟩
  · exact ⟨_, Tryd.func83, c83, by decide⟩
  · exact ⟨_, Tryd.func84, c84, by decide⟩
  · exact ⟨_, Tryd.func85, c85, by decide⟩
end Go.Proofs.YtijipnkdabdioaaDoor
