/- The mirror's program of the seat. -/
import Derived.Test.YtipnnfmgecbefaaGreatDoorG3
import Derived.Test.YtipnnfmgecbefaaGreatDoorMir25
namespace Go.Proofs.YtipnnfmgecbefaaGreatDoor
open Mir
def fnOf : Nat → Option Mir.Fn
  | 5 => some g5 | 7 => some g7 | 9 => some g9 | 10 => some g10 | 12 => some g12 | 13 => some g13 | 17 => some g17 | 18 => some g18
  | 19 => some g19 | 20 => some g20 | 21 => some g21 | 22 => some g22 | 23 => some g23 | 24 => some g24 | 27 => some g27 | 28 => some g28
  | 29 => some g29 | 30 => some g30 | 31 => some g31 | 32 => some g32 | 33 => some g33 | 34 => some g34 | 35 => some g35 | 36 => some g36
  | 37 => some g37 | 38 => some g38 | 39 => some g39 | 40 => some g40 | 41 => some g41 | 42 => some g42 | 43 => some g43 | 44 => some g44
  | 45 => some g45 | 48 => some g48 | 49 => some g49 | 50 => some g50 | 51 => some g51 | 52 => some g52 | 53 => some g53 | 54 => some g54
  | 55 => some g55 | 56 => some g56 | 57 => some g57 | 58 => some g58 | 59 => some g59 | 60 => some g60 | 61 => some g61 | 62 => some g62
  | 63 => some g63 | 64 => some g64 | 65 => some g65 | 66 => some g66 | 67 => some g67 | 68 => some g68 | 69 => some g69 | 70 => some g70
  | 71 => some g71 | 72 => some g72 | 73 => some g73 | 74 => some g74 | 75 => some g75 | 77 => some g77 | 78 => some g78 | 79 => some g79
  | 80 => some g80 | 81 => some g81 | 82 => some g82 | 83 => some g83 | 84 => some g84 | 85 => some g85 | 86 => some g86 | 87 => some g87
  | 88 => some g88 | 89 => some g89 | 90 => some g90 | 91 => some g91 | 92 => some g92 | 93 => some g93 | 94 => some g94 | 95 => some g95
  | 96 => some g96 | 97 => some g97 | 98 => some g98 | 99 => some g99 | 100 => some g100 | 101 => some g101 | 102 => some g102 | 103 => some g103
  | 109 => some g109 | 110 => some g110 | 111 => some g111 | 112 => some g112 | 113 => some g113 | 114 => some g114 | 115 => some g115 | 116 => some g116
  | 117 => some g117 | 119 => some g119 | 120 => some g120 | 121 => some g121 | 122 => some g122 | 123 => some g123 | 124 => some g124 | 125 => some g125
  | 126 => some g126 | 127 => some g127 | 128 => some g128 | 130 => some g130 | 132 => some g132 | 134 => some g134 | 137 => some g137 | 138 => some g138
  | 139 => some g139 | 141 => some g141 | 142 => some g142 | 143 => some g143 | 144 => some g144 | 145 => some g145 | 146 => some g146 | 147 => some g147
  | 148 => some g148 | 149 => some g149 | 151 => some g151 | 153 => some g153
  | _ => none
def pg : Pg := ⟨fnOf, fun _ _ => none⟩
set_option maxRecDepth 100000 in
theorem pg_ok : PgOk Tryz.prog pg := by
  refine ⟨by kernel_rfl, fun f g hg => ?_, fun f args v hk => by cases hk⟩
  simp only [pg, fnOf] at hg
  split at hg <;> cases hg
  · exact ⟨_, Tryz.func5, c5, by decide⟩
  · exact ⟨_, Tryz.func7, c7, by decide⟩
  · exact ⟨_, Tryz.func9, c9, by decide⟩
  · exact ⟨_, Tryz.func10, c10, by decide⟩
  · exact ⟨_, Tryz.func12, c12, by decide⟩
  · exact ⟨_, Tryz.func13, c13, by decide⟩
  · exact ⟨_, Tryz.func17, c17, by decide⟩
  · exact ⟨_, Tryz.func18, c18, by decide⟩
  · exact ⟨_, Tryz.func19, c19, by decide⟩
  · exact ⟨_, Tryz.func20, c20, by decide⟩
  · exact ⟨_, Tryz.func21, c21, by decide⟩
  · exact ⟨_, Tryz.func22, c22, by decide⟩
  · exact ⟨_, Tryz.func23, c23, by decide⟩
  · exact ⟨_, Tryz.func24, c24, by decide⟩
  · exact ⟨_, Tryz.func27, c27, by decide⟩
  · exact ⟨_, Tryz.func28, c28, by decide⟩
  · exact ⟨_, Tryz.func29, c29, by decide⟩
  · exact ⟨_, Tryz.func30, c30, by decide⟩
  · exact ⟨_, Tryz.func31, c31, by decide⟩
  · exact ⟨_, Tryz.func32, c32, by decide⟩
  · exact ⟨_, Tryz.func33, c33, by decide⟩
  · exact ⟨_, Tryz.func34, c34, by decide⟩
  · exact ⟨_, Tryz.func35, c35, by decide⟩
  · exact ⟨_, Tryz.func36, c36, by decide⟩
  · exact ⟨_, Tryz.func37, c37, by decide⟩
  · exact ⟨_, Tryz.func38, c38, by decide⟩
  · exact ⟨_, Tryz.func39, c39, by decide⟩
  · exact ⟨_, Tryz.func40, c40, by decide⟩
  · exact ⟨_, Tryz.func41, c41, by decide⟩
  · exact ⟨_, Tryz.func42, c42, by decide⟩
  · exact ⟨_, Tryz.func43, c43, by decide⟩
  · exact ⟨_, Tryz.func44, c44, by decide⟩
  · exact ⟨_, Tryz.func45, c45, by decide⟩
  · exact ⟨_, Tryz.func48, c48, by decide⟩
  · exact ⟨_, Tryz.func49, c49, by decide⟩
  · exact ⟨_, Tryz.func50, c50, by decide⟩
  · exact ⟨_, Tryz.func51, c51, by decide⟩
  · exact ⟨_, Tryz.func52, c52, by decide⟩
  · exact ⟨_, Tryz.func53, c53, by decide⟩
  · exact ⟨_, Tryz.func54, c54, by decide⟩
  · exact ⟨_, Tryz.func55, c55, by decide⟩
  · exact ⟨_, Tryz.func56, c56, by decide⟩
  · exact ⟨_, Tryz.func57, c57, by decide⟩
  · exact ⟨_, Tryz.func58, c58, by decide⟩
  · exact ⟨_, Tryz.func59, c59, by decide⟩
  · exact ⟨_, Tryz.func60, c60, by decide⟩
  · exact ⟨_, Tryz.func61, c61, by decide⟩
  · exact ⟨_, Tryz.func62, c62, by decide⟩
  · exact ⟨_, Tryz.func63, c63, by decide⟩
  · exact ⟨_, Tryz.func64, c64, by decide⟩
  · exact ⟨_, Tryz.func65, c65, by decide⟩
  · exact ⟨_, Tryz.func66, c66, by decide⟩
  · exact ⟨_, Tryz.func67, c67, by decide⟩
  · exact ⟨_, Tryz.func68, c68, by decide⟩
  · exact ⟨_, Tryz.func69, c69, by decide⟩
  · exact ⟨_, Tryz.func70, c70, by decide⟩
  · exact ⟨_, Tryz.func71, c71, by decide⟩
  · exact ⟨_, Tryz.func72, c72, by decide⟩
  · exact ⟨_, Tryz.func73, c73, by decide⟩
  · exact ⟨_, Tryz.func74, c74, by decide⟩
  · exact ⟨_, Tryz.func75, c75, by decide⟩
  · exact ⟨_, Tryz.func77, c77, by decide⟩
  · exact ⟨_, Tryz.func78, c78, by decide⟩
  · exact ⟨_, Tryz.func79, c79, by decide⟩
  · exact ⟨_, Tryz.func80, c80, by decide⟩
  · exact ⟨_, Tryz.func81, c81, by decide⟩
  · exact ⟨_, Tryz.func82, c82, by decide⟩
  · exact ⟨_, Tryz.func83, c83, by decide⟩
  · exact ⟨_, Tryz.func84, c84, by decide⟩
  · exact ⟨_, Tryz.func85, c85, by decide⟩
  · exact ⟨_, Tryz.func86, c86, by decide⟩
  · exact ⟨_, Tryz.func87, c87, by decide⟩
  · exact ⟨_, Tryz.func88, c88, by decide⟩
  · exact ⟨_, Tryz.func89, c89, by decide⟩
  · exact ⟨_, Tryz.func90, c90, by decide⟩
  · exact ⟨_, Tryz.func91, c91, by decide⟩
  · exact ⟨_, Tryz.func92, c92, by decide⟩
  · exact ⟨_, Tryz.func93, c93, by decide⟩
  · exact ⟨_, Tryz.func94, c94, by decide⟩
  · exact ⟨_, Tryz.func95, c95, by decide⟩
  · exact ⟨_, Tryz.func96, c96, by decide⟩
  · exact ⟨_, Tryz.func97, c97, by decide⟩
  · exact ⟨_, Tryz.func98, c98, by decide⟩
  · exact ⟨_, Tryz.func99, c99, by decide⟩
  · exact ⟨_, Tryz.func100, c100, by decide⟩
  · exact ⟨_, Tryz.func101, c101, by decide⟩
  · exact ⟨_, Tryz.func102, c102, by decide⟩
  · exact ⟨_, Tryz.func103, c103, by decide⟩
  · exact ⟨_, Tryz.func109, c109, by decide⟩
  · exact ⟨_, Tryz.func110, c110, by decide⟩
  · exact ⟨_, Tryz.func111, c111, by decide⟩
  · exact ⟨_, Tryz.func112, c112, by decide⟩
  · exact ⟨_, Tryz.func113, c113, by decide⟩
  · exact ⟨_, Tryz.func114, c114, by decide⟩
  · exact ⟨_, Tryz.func115, c115, by decide⟩
  · exact ⟨_, Tryz.func116, c116, by decide⟩
  · exact ⟨_, Tryz.func117, c117, by decide⟩
  · exact ⟨_, Tryz.func119, c119, by decide⟩
  · exact ⟨_, Tryz.func120, c120, by decide⟩
  · exact ⟨_, Tryz.func121, c121, by decide⟩
  · exact ⟨_, Tryz.func122, c122, by decide⟩
  · exact ⟨_, Tryz.func123, c123, by decide⟩
  · exact ⟨_, Tryz.func124, c124, by decide⟩
  · exact ⟨_, Tryz.func125, c125, by decide⟩
  · exact ⟨_, Tryz.func126, c126, by decide⟩
  · exact ⟨_, Tryz.func127, c127, by decide⟩
  · exact ⟨_, Tryz.func128, c128, by decide⟩
  · exact ⟨_, Tryz.func130, c130, by decide⟩
  · exact ⟨_, Tryz.func132, c132, by decide⟩
  · exact ⟨_, Tryz.func134, c134, by decide⟩
  · exact ⟨_, Tryz.func137, c137, by decide⟩
  · exact ⟨_, Tryz.func138, c138, by decide⟩
  · exact ⟨_, Tryz.func139, c139, by decide⟩
  · exact ⟨_, Tryz.func141, c141, by decide⟩
  · exact ⟨_, Tryz.func142, c142, by decide⟩
  · exact ⟨_, Tryz.func143, c143, by decide⟩
  · exact ⟨_, Tryz.func144, c144, by decide⟩
  · exact ⟨_, Tryz.func145, c145, by decide⟩
  · exact ⟨_, Tryz.func146, c146, by decide⟩
  · exact ⟨_, Tryz.func147, c147, by decide⟩
  · exact ⟨_, Tryz.func148, c148, by decide⟩
  · exact ⟨_, Tryz.func149, c149, by decide⟩
  · exact ⟨_, Tryz.func151, c151, by decide⟩
  · exact ⟨_, Tryz.func153, c153, by decide⟩
end Go.Proofs.YtipnnfmgecbefaaGreatDoor
