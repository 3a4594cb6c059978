/- The mirror's program of the seat. -/
import Derived.Test.YtijipnkdabdioabGreatDoorG1
import Derived.Test.YtijipnkdabdioabGreatDoorMir25
namespace Go.Proofs.YtijipnkdabdioabGreatDoor
open Mir
def fnOf : Nat → Option Mir.Fn
  | 3 => some g3 | 4 => some g4 | 5 => some g5 | 6 => some g6 | 7 => some g7 | 8 => some g8 | 9 => some g9 | 10 => some g10
  | 11 => some g11 | 12 => some g12 | 13 => some g13 | 14 => some g14 | 15 => some g15 | 16 => some g16 | 17 => some g17 | 18 => some g18
  | 19 => some g19 | 20 => some g20 | 21 => some g21 | 22 => some g22 | 23 => some g23 | 24 => some g24 | 25 => some g25 | 26 => some g26
  | 27 => some g27 | 28 => some g28 | 29 => some g29 | 30 => some g30 | 31 => some g31 | 32 => some g32 | 33 => some g33 | 34 => some g34
  | 35 => some g35 | 36 => some g36 | 37 => some g37 | 38 => some g38 | 40 => some g40 | 41 => some g41 | 42 => some g42 | 43 => some g43
  | 44 => some g44 | 45 => some g45 | 46 => some g46 | 47 => some g47 | 48 => some g48 | 49 => some g49 | 50 => some g50 | 51 => some g51
  | 52 => some g52 | 53 => some g53 | 54 => some g54 | 55 => some g55 | 56 => some g56 | 57 => some g57 | 58 => some g58 | 59 => some g59
  | 60 => some g60 | 61 => some g61 | 62 => some g62 | 65 => some g65 | 71 => some g71 | 75 => some g75 | 76 => some g76 | 77 => some g77
  | 78 => some g78 | 79 => some g79 | 81 => some g81 | 85 => some g85 | 86 => some g86 | 93 => some g93 | 94 => some g94 | 95 => some g95
  | 100 => some g100
  | _ => none
def pg : Pg := ⟨fnOf, fun _ _ => none⟩
set_option maxRecDepth 100000 in
theorem pg_ok : PgOk Tryz.prog pg := by
  refine ⟨by kernel_rfl, fun f g hg => ?_, fun f args v hk => by cases hk⟩
  simp only [pg, fnOf] at hg
  split at hg <;> cases hg
  · exact ⟨_, Tryz.func3, c3, by decide⟩
  · exact ⟨_, Tryz.func4, c4, by decide⟩
  · exact ⟨_, Tryz.func5, c5, by decide⟩
  · exact ⟨_, Tryz.func6, c6, by decide⟩
  · exact ⟨_, Tryz.func7, c7, by decide⟩
  · exact ⟨_, Tryz.func8, c8, by decide⟩
  · exact ⟨_, Tryz.func9, c9, by decide⟩
  · exact ⟨_, Tryz.func10, c10, by decide⟩
  · exact ⟨_, Tryz.func11, c11, by decide⟩
  · exact ⟨_, Tryz.func12, c12, by decide⟩
  · exact ⟨_, Tryz.func13, c13, by decide⟩
  · exact ⟨_, Tryz.func14, c14, by decide⟩
  · exact ⟨_, Tryz.func15, c15, by decide⟩
  · exact ⟨_, Tryz.func16, c16, by decide⟩
  · exact ⟨_, Tryz.func17, c17, by decide⟩
  · exact ⟨_, Tryz.func18, c18, by decide⟩
  · exact ⟨_, Tryz.func19, c19, by decide⟩
  · exact ⟨_, Tryz.func20, c20, by decide⟩
  · exact ⟨_, Tryz.func21, c21, by decide⟩
  · exact ⟨_, Tryz.func22, c22, by decide⟩
  · exact ⟨_, Tryz.func23, c23, by decide⟩
  · exact ⟨_, Tryz.func24, c24, by decide⟩
  · exact ⟨_, Tryz.func25, c25, by decide⟩
  · exact ⟨_, Tryz.func26, c26, by decide⟩
  · exact ⟨_, Tryz.func27, c27, by decide⟩
  · exact ⟨_, Tryz.func28, c28, by decide⟩
  · exact ⟨_, Tryz.func29, c29, by decide⟩
  · exact ⟨_, Tryz.func30, c30, by decide⟩
  · exact ⟨_, Tryz.func31, c31, by decide⟩
  · exact ⟨_, Tryz.func32, c32, by decide⟩
  · exact ⟨_, Tryz.func33, c33, by decide⟩
  · exact ⟨_, Tryz.func34, c34, by decide⟩
  · exact ⟨_, Tryz.func35, c35, by decide⟩
  · exact ⟨_, Tryz.func36, c36, by decide⟩
  · exact ⟨_, Tryz.func37, c37, by decide⟩
  · exact ⟨_, Tryz.func38, c38, by decide⟩
  · exact ⟨_, Tryz.func40, c40, by decide⟩
  · exact ⟨_, Tryz.func41, c41, by decide⟩
  · exact ⟨_, Tryz.func42, c42, by decide⟩
  · exact ⟨_, Tryz.func43, c43, by decide⟩
  · exact ⟨_, Tryz.func44, c44, by decide⟩
  · exact ⟨_, Tryz.func45, c45, by decide⟩
  · exact ⟨_, Tryz.func46, c46, by decide⟩
  · exact ⟨_, Tryz.func47, c47, by decide⟩
  · exact ⟨_, Tryz.func48, c48, by decide⟩
  · exact ⟨_, Tryz.func49, c49, by decide⟩
  · exact ⟨_, Tryz.func50, c50, by decide⟩
  · exact ⟨_, Tryz.func51, c51, by decide⟩
  · exact ⟨_, Tryz.func52, c52, by decide⟩
  · exact ⟨_, Tryz.func53, c53, by decide⟩
  · exact ⟨_, Tryz.func54, c54, by decide⟩
  · exact ⟨_, Tryz.func55, c55, by decide⟩
  · exact ⟨_, Tryz.func56, c56, by decide⟩
  · exact ⟨_, Tryz.func57, c57, by decide⟩
  · exact ⟨_, Tryz.func58, c58, by decide⟩
  · exact ⟨_, Tryz.func59, c59, by decide⟩
  · exact ⟨_, Tryz.func60, c60, by decide⟩
  · exact ⟨_, Tryz.func61, c61, by decide⟩
  · exact ⟨_, Tryz.func62, c62, by decide⟩
  · exact ⟨_, Tryz.func65, c65, by decide⟩
  · exact ⟨_, Tryz.func71, c71, by decide⟩
  · exact ⟨_, Tryz.func75, c75, by decide⟩
  · exact ⟨_, Tryz.func76, c76, by decide⟩
  · exact ⟨_, Tryz.func77, c77, by decide⟩
  · exact ⟨_, Tryz.func78, c78, by decide⟩
  · exact ⟨_, Tryz.func79, c79, by decide⟩
  · exact ⟨_, Tryz.func81, c81, by decide⟩
  · exact ⟨_, Tryz.func85, c85, by decide⟩
  · exact ⟨_, Tryz.func86, c86, by decide⟩
  · exact ⟨_, Tryz.func93, c93, by decide⟩
  · exact ⟨_, Tryz.func94, c94, by decide⟩
  · exact ⟨_, Tryz.func95, c95, by decide⟩
  · exact ⟨_, Tryz.func100, c100, by decide⟩
end Go.Proofs.YtijipnkdabdioabGreatDoor
