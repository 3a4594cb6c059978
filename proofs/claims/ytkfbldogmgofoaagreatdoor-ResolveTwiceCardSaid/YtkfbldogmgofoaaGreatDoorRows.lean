/-
  NARROWER THAN 'FOR EVERY INPUT', by the rows' own cells (each row's printed sentence says how): ResolveTold: laid · ResolveTwice: laid · ResolveStray: laid · ParseTold: laid · ParseBanned: laid · ParseDeep: laid · ParseLines: laid · ParseSpaced: laid · ParseInner: laid · ParseOrder: laid.
  DERIVED. THE GIVEN ROWS OF THIS SEAT. 10 by the template 'for every input the law returns true; each argument reads behind the call as it read before'; 0 by the template 'total and deterministic' (their statements: YtkfbldogmgofoaaGreatDoorTotals.lean).
  GIVEN WITH THE SEED: the statements are not yours to turn. If you find one false, say at which input.
  Laid BY PROGRAM, IN A SANDBOX (cutbox-rows.mjs): the forced cells as the released guide's own fill.sh prints them over the translation b6831eb940a49772… (all of the seat's roots in one cut). By AI agents, Wed Nov 11 2026. No macro, syntax, notation, axiom, sorry.
-/
import Derived.Test.YtkfbldogmgofoaaGreatDoorChecked
import GoSem.Claim
import GoSem.ClaimJoined
import GoSem.ClaimMapViews
import Derived.JoinedTies
import Derived.KernelRfl
namespace Go.Proofs.YtkfbldogmgofoaaGreatDoor
/- THE CELL 'sum', in the pinned program and in every row, IS THE sha256 OF THE DUMP (.gsa) THAT YtkfbldogmgofoaaGreatDoorProg.lean LOADS. Nothing in Lean hashes anything: it is a label: what it is worth is what the hold of that sum in a sandbox is worth. -/
noncomputable def Tryz.pinned : Pinned := { name := "ytkfbldogmgofoaagreatdoor", sum := "b6831eb940a49772470feece8fb1e81986c4337a1e4fa9080f379b8faf34e237", checked := Tryz.checked }
namespace Rows
def none {H : Type} : Left H := { results := [], args := [] }

/- WHAT THE LISTED PACKAGE-LEVEL VARIABLES READ AS WHEN THE CALL BEGINS. Each datum BY PROGRAM (the guide's laid-datum.mjs) off the statement by which the dump's own 'gosem.cut.vars' lays the variable. In a bare row this is a premise. The card (YtkfbldogmgofoaaGreatDoorCards.lean) ties it to the program's text. -/
def laid_scribe_lex_words {H : Type} : DataW H := .slice [.lit (.string [66, 69, 71, 73, 78]), .lit (.string [69, 78, 68]), .lit (.string [102, 117, 110, 99, 116, 105, 111, 110]), .lit (.string [105, 102]), .lit (.string [101, 108, 115, 101]), .lit (.string [119, 104, 105, 108, 101]), .lit (.string [102, 111, 114]), .lit (.string [105, 110]), .lit (.string [98, 114, 101, 97, 107]), .lit (.string [99, 111, 110, 116, 105, 110, 117, 101]), .lit (.string [110, 101, 120, 116]), .lit (.string [101, 120, 105, 116]), .lit (.string [114, 101, 116, 117, 114, 110]), .lit (.string [100, 101, 108, 101, 116, 101]), .lit (.string [112, 114, 105, 110, 116]), .lit (.string [112, 114, 105, 110, 116, 102])] []
def laid_scribe_lex_builtins {H : Type} : DataW H := .slice [.lit (.string [108, 101, 110, 103, 116, 104]), .lit (.string [115, 117, 98, 115, 116, 114]), .lit (.string [105, 110, 100, 101, 120]), .lit (.string [115, 112, 108, 105, 116]), .lit (.string [115, 117, 98]), .lit (.string [103, 115, 117, 98]), .lit (.string [109, 97, 116, 99, 104]), .lit (.string [116, 111, 108, 111, 119, 101, 114]), .lit (.string [116, 111, 117, 112, 112, 101, 114]), .lit (.string [105, 110, 116]), .lit (.string [115, 112, 114, 105, 110, 116, 102]), .lit (.string [114, 97, 110, 100]), .lit (.string [115, 114, 97, 110, 100])] []
def laid_scribe_lex_banned {H : Type} : DataW H := .slice [.lit (.string [103, 101, 116, 108, 105, 110, 101]), .lit (.string [115, 121, 115, 116, 101, 109]), .lit (.string [99, 108, 111, 115, 101]), .lit (.string [102, 102, 108, 117, 115, 104]), .lit (.string [115, 121, 115, 116, 105, 109, 101]), .lit (.string [115, 116, 114, 102, 116, 105, 109, 101])] []
def laid_scribe_resolve_special {H : Type} : DataW H := .slice [.lit (.string [78, 82]), .lit (.string [78, 70]), .lit (.string [70, 83]), .lit (.string [79, 70, 83]), .lit (.string [79, 82, 83]), .lit (.string [70, 73, 76, 69, 78, 65, 77, 69]), .lit (.string [82, 83, 84, 65, 82, 84]), .lit (.string [82, 76, 69, 78, 71, 84, 72])] []
def laid_math_bits_deBruijn32tab {H : Type} : DataW H := .agg [.lit (.int .u8 0), .lit (.int .u8 1), .lit (.int .u8 28), .lit (.int .u8 2), .lit (.int .u8 29), .lit (.int .u8 14), .lit (.int .u8 24), .lit (.int .u8 3), .lit (.int .u8 30), .lit (.int .u8 22), .lit (.int .u8 20), .lit (.int .u8 15), .lit (.int .u8 25), .lit (.int .u8 17), .lit (.int .u8 4), .lit (.int .u8 8), .lit (.int .u8 31), .lit (.int .u8 27), .lit (.int .u8 13), .lit (.int .u8 23), .lit (.int .u8 21), .lit (.int .u8 19), .lit (.int .u8 16), .lit (.int .u8 7), .lit (.int .u8 26), .lit (.int .u8 12), .lit (.int .u8 18), .lit (.int .u8 6), .lit (.int .u8 11), .lit (.int .u8 5), .lit (.int .u8 10), .lit (.int .u8 9)]
def laid_math_bits_deBruijn64tab {H : Type} : DataW H := .agg [.lit (.int .u8 0), .lit (.int .u8 1), .lit (.int .u8 56), .lit (.int .u8 2), .lit (.int .u8 57), .lit (.int .u8 49), .lit (.int .u8 28), .lit (.int .u8 3), .lit (.int .u8 61), .lit (.int .u8 58), .lit (.int .u8 42), .lit (.int .u8 50), .lit (.int .u8 38), .lit (.int .u8 29), .lit (.int .u8 17), .lit (.int .u8 4), .lit (.int .u8 62), .lit (.int .u8 47), .lit (.int .u8 59), .lit (.int .u8 36), .lit (.int .u8 45), .lit (.int .u8 43), .lit (.int .u8 51), .lit (.int .u8 22), .lit (.int .u8 53), .lit (.int .u8 39), .lit (.int .u8 33), .lit (.int .u8 30), .lit (.int .u8 24), .lit (.int .u8 18), .lit (.int .u8 12), .lit (.int .u8 5), .lit (.int .u8 63), .lit (.int .u8 55), .lit (.int .u8 48), .lit (.int .u8 27), .lit (.int .u8 60), .lit (.int .u8 41), .lit (.int .u8 37), .lit (.int .u8 16), .lit (.int .u8 46), .lit (.int .u8 35), .lit (.int .u8 44), .lit (.int .u8 21), .lit (.int .u8 52), .lit (.int .u8 32), .lit (.int .u8 23), .lit (.int .u8 11), .lit (.int .u8 54), .lit (.int .u8 26), .lit (.int .u8 40), .lit (.int .u8 15), .lit (.int .u8 34), .lit (.int .u8 20), .lit (.int .u8 31), .lit (.int .u8 10), .lit (.int .u8 25), .lit (.int .u8 14), .lit (.int .u8 19), .lit (.int .u8 9), .lit (.int .u8 13), .lit (.int .u8 8), .lit (.int .u8 7), .lit (.int .u8 6)]
def laid_internal_strconv_uint64pow10 {H : Type} : DataW H := .agg [.lit (.int .u64 1), .lit (.int .u64 10), .lit (.int .u64 100), .lit (.int .u64 1000), .lit (.int .u64 10000), .lit (.int .u64 100000), .lit (.int .u64 1000000), .lit (.int .u64 10000000), .lit (.int .u64 100000000), .lit (.int .u64 1000000000), .lit (.int .u64 10000000000), .lit (.int .u64 100000000000), .lit (.int .u64 1000000000000), .lit (.int .u64 10000000000000), .lit (.int .u64 100000000000000), .lit (.int .u64 1000000000000000), .lit (.int .u64 10000000000000000), .lit (.int .u64 100000000000000000), .lit (.int .u64 1000000000000000000), .lit (.int .u64 10000000000000000000)]

/-- 'scribelaw14.ResolveTold': WHATEVER THE INPUT: true; the input reads as it did. -/
def resolveToldSpec : ChangeSpec := { name := "resolveTold", fn := fun _ => fun
  | [d] => { results := [.lit (.bool true)], args := [d] }
  | _ => none }
def resolveToldRow : OpenClaim := { program := "ytkfbldogmgofoaagreatdoor", sum := "b6831eb940a49772470feece8fb1e81986c4337a1e4fa9080f379b8faf34e237", func := "scribe/scribelaw14.ResolveTold", spec := "resolveTold", inPlace := ["internal/abi.NoEscape", "internal/bytealg.IndexByteString", "internal/bytealg.IndexString"], unfollowed := true, recurses := true, named := ["scribe/lex.words", "scribe/lex.builtins", "scribe/lex.banned", "internal/bytealg.MaxLen", "scribe/resolve.special"], plainKeys := false, apart := false, laid := [("scribe/lex.words", laid_scribe_lex_words), ("scribe/lex.builtins", laid_scribe_lex_builtins), ("scribe/lex.banned", laid_scribe_lex_banned), ("scribe/resolve.special", laid_scribe_resolve_special)] }
def ResolveToldSaid : Prop := resolveToldRow.holds Tryz.pinned (OpenSpec.ofChange resolveToldSpec)

/-- ITS FALSE NEIGHBOUR: 'it returns false'. Refute it at one input. -/
def resolveToldWrong : ChangeSpec := { name := "resolveTold", fn := fun _ => fun
  | [d] => { results := [.lit (.bool false)], args := [d] }
  | _ => none }
def ResolveToldWrongFalsely : Prop := resolveToldRow.holds Tryz.pinned (OpenSpec.ofChange resolveToldWrong)

/-- 'scribelaw14.ResolveTwice': WHATEVER THE INPUT: true; the input reads as it did. -/
def resolveTwiceSpec : ChangeSpec := { name := "resolveTwice", fn := fun _ => fun
  | [d] => { results := [.lit (.bool true)], args := [d] }
  | _ => none }
def resolveTwiceRow : OpenClaim := { program := "ytkfbldogmgofoaagreatdoor", sum := "b6831eb940a49772470feece8fb1e81986c4337a1e4fa9080f379b8faf34e237", func := "scribe/scribelaw14.ResolveTwice", spec := "resolveTwice", inPlace := ["internal/abi.NoEscape", "internal/bytealg.IndexByteString", "internal/bytealg.IndexString"], unfollowed := true, recurses := true, named := ["scribe/lex.words", "scribe/lex.builtins", "scribe/lex.banned", "internal/bytealg.MaxLen", "scribe/resolve.special"], plainKeys := false, apart := false, laid := [("scribe/lex.words", laid_scribe_lex_words), ("scribe/lex.builtins", laid_scribe_lex_builtins), ("scribe/lex.banned", laid_scribe_lex_banned), ("scribe/resolve.special", laid_scribe_resolve_special)] }
def ResolveTwiceSaid : Prop := resolveTwiceRow.holds Tryz.pinned (OpenSpec.ofChange resolveTwiceSpec)

/-- ITS FALSE NEIGHBOUR: 'it returns false'. Refute it at one input. -/
def resolveTwiceWrong : ChangeSpec := { name := "resolveTwice", fn := fun _ => fun
  | [d] => { results := [.lit (.bool false)], args := [d] }
  | _ => none }
def ResolveTwiceWrongFalsely : Prop := resolveTwiceRow.holds Tryz.pinned (OpenSpec.ofChange resolveTwiceWrong)

/-- 'scribelaw14.ResolveStray': WHATEVER THE INPUT: true; the input reads as it did. -/
def resolveStraySpec : ChangeSpec := { name := "resolveStray", fn := fun _ => fun
  | [d] => { results := [.lit (.bool true)], args := [d] }
  | _ => none }
def resolveStrayRow : OpenClaim := { program := "ytkfbldogmgofoaagreatdoor", sum := "b6831eb940a49772470feece8fb1e81986c4337a1e4fa9080f379b8faf34e237", func := "scribe/scribelaw14.ResolveStray", spec := "resolveStray", inPlace := ["internal/abi.NoEscape", "internal/bytealg.IndexByteString", "internal/bytealg.IndexString"], unfollowed := true, recurses := true, named := ["scribe/lex.words", "scribe/lex.builtins", "scribe/lex.banned", "internal/bytealg.MaxLen", "scribe/resolve.special"], plainKeys := false, apart := false, laid := [("scribe/lex.words", laid_scribe_lex_words), ("scribe/lex.builtins", laid_scribe_lex_builtins), ("scribe/lex.banned", laid_scribe_lex_banned), ("scribe/resolve.special", laid_scribe_resolve_special)] }
def ResolveStraySaid : Prop := resolveStrayRow.holds Tryz.pinned (OpenSpec.ofChange resolveStraySpec)

/-- ITS FALSE NEIGHBOUR: 'it returns false'. Refute it at one input. -/
def resolveStrayWrong : ChangeSpec := { name := "resolveStray", fn := fun _ => fun
  | [d] => { results := [.lit (.bool false)], args := [d] }
  | _ => none }
def ResolveStrayWrongFalsely : Prop := resolveStrayRow.holds Tryz.pinned (OpenSpec.ofChange resolveStrayWrong)

/-- 'scribelaw13.ParseTold': WHATEVER THE INPUT: true; the input reads as it did. -/
def parseToldSpec : ChangeSpec := { name := "parseTold", fn := fun _ => fun
  | [d] => { results := [.lit (.bool true)], args := [d] }
  | _ => none }
def parseToldRow : OpenClaim := { program := "ytkfbldogmgofoaagreatdoor", sum := "b6831eb940a49772470feece8fb1e81986c4337a1e4fa9080f379b8faf34e237", func := "scribe/scribelaw13.ParseTold", spec := "parseTold", inPlace := ["internal/abi.NoEscape", "internal/bytealg.IndexByteString", "internal/bytealg.IndexString"], unfollowed := true, recurses := true, named := ["scribe/lex.words", "scribe/lex.builtins", "scribe/lex.banned", "internal/bytealg.MaxLen", "internal/strconv.uint64pow10", "math/bits.deBruijn32tab", "math/bits.deBruijn64tab"], plainKeys := false, apart := false, laid := [("math/bits.deBruijn32tab", laid_math_bits_deBruijn32tab), ("math/bits.deBruijn64tab", laid_math_bits_deBruijn64tab), ("internal/strconv.uint64pow10", laid_internal_strconv_uint64pow10), ("scribe/lex.words", laid_scribe_lex_words), ("scribe/lex.builtins", laid_scribe_lex_builtins), ("scribe/lex.banned", laid_scribe_lex_banned)] }
def ParseToldSaid : Prop := parseToldRow.holds Tryz.pinned (OpenSpec.ofChange parseToldSpec)

/-- ITS FALSE NEIGHBOUR: 'it returns false'. Refute it at one input. -/
def parseToldWrong : ChangeSpec := { name := "parseTold", fn := fun _ => fun
  | [d] => { results := [.lit (.bool false)], args := [d] }
  | _ => none }
def ParseToldWrongFalsely : Prop := parseToldRow.holds Tryz.pinned (OpenSpec.ofChange parseToldWrong)

/-- 'scribelaw13.ParseBanned': WHATEVER THE INPUT: true; the input reads as it did. -/
def parseBannedSpec : ChangeSpec := { name := "parseBanned", fn := fun _ => fun
  | [d] => { results := [.lit (.bool true)], args := [d] }
  | _ => none }
def parseBannedRow : OpenClaim := { program := "ytkfbldogmgofoaagreatdoor", sum := "b6831eb940a49772470feece8fb1e81986c4337a1e4fa9080f379b8faf34e237", func := "scribe/scribelaw13.ParseBanned", spec := "parseBanned", inPlace := ["internal/abi.NoEscape", "internal/bytealg.IndexByteString", "internal/bytealg.IndexString"], unfollowed := true, recurses := true, named := ["scribe/lex.words", "scribe/lex.builtins", "scribe/lex.banned", "internal/bytealg.MaxLen", "internal/strconv.uint64pow10", "math/bits.deBruijn32tab", "math/bits.deBruijn64tab"], plainKeys := false, apart := false, laid := [("math/bits.deBruijn32tab", laid_math_bits_deBruijn32tab), ("math/bits.deBruijn64tab", laid_math_bits_deBruijn64tab), ("internal/strconv.uint64pow10", laid_internal_strconv_uint64pow10), ("scribe/lex.words", laid_scribe_lex_words), ("scribe/lex.builtins", laid_scribe_lex_builtins), ("scribe/lex.banned", laid_scribe_lex_banned)] }
def ParseBannedSaid : Prop := parseBannedRow.holds Tryz.pinned (OpenSpec.ofChange parseBannedSpec)

/-- ITS FALSE NEIGHBOUR: 'it returns false'. Refute it at one input. -/
def parseBannedWrong : ChangeSpec := { name := "parseBanned", fn := fun _ => fun
  | [d] => { results := [.lit (.bool false)], args := [d] }
  | _ => none }
def ParseBannedWrongFalsely : Prop := parseBannedRow.holds Tryz.pinned (OpenSpec.ofChange parseBannedWrong)

/-- 'scribelaw13.ParseDeep': WHATEVER THE INPUT: true; the input reads as it did. -/
def parseDeepSpec : ChangeSpec := { name := "parseDeep", fn := fun _ => fun
  | [d] => { results := [.lit (.bool true)], args := [d] }
  | _ => none }
def parseDeepRow : OpenClaim := { program := "ytkfbldogmgofoaagreatdoor", sum := "b6831eb940a49772470feece8fb1e81986c4337a1e4fa9080f379b8faf34e237", func := "scribe/scribelaw13.ParseDeep", spec := "parseDeep", inPlace := ["internal/abi.NoEscape", "internal/bytealg.IndexByteString", "internal/bytealg.IndexString"], unfollowed := true, recurses := true, named := ["scribe/lex.words", "scribe/lex.builtins", "scribe/lex.banned", "internal/bytealg.MaxLen", "internal/strconv.uint64pow10", "math/bits.deBruijn32tab", "math/bits.deBruijn64tab"], plainKeys := false, apart := false, laid := [("math/bits.deBruijn32tab", laid_math_bits_deBruijn32tab), ("math/bits.deBruijn64tab", laid_math_bits_deBruijn64tab), ("internal/strconv.uint64pow10", laid_internal_strconv_uint64pow10), ("scribe/lex.words", laid_scribe_lex_words), ("scribe/lex.builtins", laid_scribe_lex_builtins), ("scribe/lex.banned", laid_scribe_lex_banned)] }
def ParseDeepSaid : Prop := parseDeepRow.holds Tryz.pinned (OpenSpec.ofChange parseDeepSpec)

/-- ITS FALSE NEIGHBOUR: 'it returns false'. Refute it at one input. -/
def parseDeepWrong : ChangeSpec := { name := "parseDeep", fn := fun _ => fun
  | [d] => { results := [.lit (.bool false)], args := [d] }
  | _ => none }
def ParseDeepWrongFalsely : Prop := parseDeepRow.holds Tryz.pinned (OpenSpec.ofChange parseDeepWrong)

/-- 'scribelaw13.ParseLines': WHATEVER THE INPUT: true; the input reads as it did. -/
def parseLinesSpec : ChangeSpec := { name := "parseLines", fn := fun _ => fun
  | [d1, d2] => { results := [.lit (.bool true)], args := [d1, d2] }
  | _ => none }
def parseLinesRow : OpenClaim := { program := "ytkfbldogmgofoaagreatdoor", sum := "b6831eb940a49772470feece8fb1e81986c4337a1e4fa9080f379b8faf34e237", func := "scribe/scribelaw13.ParseLines", spec := "parseLines", inPlace := ["internal/abi.NoEscape", "internal/bytealg.IndexByteString", "internal/bytealg.IndexString"], unfollowed := true, recurses := true, named := ["scribe/lex.words", "scribe/lex.builtins", "scribe/lex.banned", "internal/bytealg.MaxLen", "internal/strconv.uint64pow10", "math/bits.deBruijn32tab", "math/bits.deBruijn64tab"], plainKeys := false, apart := false, laid := [("math/bits.deBruijn32tab", laid_math_bits_deBruijn32tab), ("math/bits.deBruijn64tab", laid_math_bits_deBruijn64tab), ("internal/strconv.uint64pow10", laid_internal_strconv_uint64pow10), ("scribe/lex.words", laid_scribe_lex_words), ("scribe/lex.builtins", laid_scribe_lex_builtins), ("scribe/lex.banned", laid_scribe_lex_banned)] }
def ParseLinesSaid : Prop := parseLinesRow.holds Tryz.pinned (OpenSpec.ofChange parseLinesSpec)

/-- ITS FALSE NEIGHBOUR: 'it returns false'. Refute it at one input. -/
def parseLinesWrong : ChangeSpec := { name := "parseLines", fn := fun _ => fun
  | [d1, d2] => { results := [.lit (.bool false)], args := [d1, d2] }
  | _ => none }
def ParseLinesWrongFalsely : Prop := parseLinesRow.holds Tryz.pinned (OpenSpec.ofChange parseLinesWrong)

/-- 'scribelaw13.ParseSpaced': WHATEVER THE INPUT: true; the input reads as it did. -/
def parseSpacedSpec : ChangeSpec := { name := "parseSpaced", fn := fun _ => fun
  | [d] => { results := [.lit (.bool true)], args := [d] }
  | _ => none }
def parseSpacedRow : OpenClaim := { program := "ytkfbldogmgofoaagreatdoor", sum := "b6831eb940a49772470feece8fb1e81986c4337a1e4fa9080f379b8faf34e237", func := "scribe/scribelaw13.ParseSpaced", spec := "parseSpaced", inPlace := ["internal/abi.NoEscape", "internal/bytealg.IndexByteString", "internal/bytealg.IndexString"], unfollowed := true, recurses := true, named := ["scribe/lex.words", "scribe/lex.builtins", "scribe/lex.banned", "internal/bytealg.MaxLen", "internal/strconv.uint64pow10", "math/bits.deBruijn32tab", "math/bits.deBruijn64tab"], plainKeys := false, apart := false, laid := [("math/bits.deBruijn32tab", laid_math_bits_deBruijn32tab), ("math/bits.deBruijn64tab", laid_math_bits_deBruijn64tab), ("internal/strconv.uint64pow10", laid_internal_strconv_uint64pow10), ("scribe/lex.words", laid_scribe_lex_words), ("scribe/lex.builtins", laid_scribe_lex_builtins), ("scribe/lex.banned", laid_scribe_lex_banned)] }
def ParseSpacedSaid : Prop := parseSpacedRow.holds Tryz.pinned (OpenSpec.ofChange parseSpacedSpec)

/-- ITS FALSE NEIGHBOUR: 'it returns false'. Refute it at one input. -/
def parseSpacedWrong : ChangeSpec := { name := "parseSpaced", fn := fun _ => fun
  | [d] => { results := [.lit (.bool false)], args := [d] }
  | _ => none }
def ParseSpacedWrongFalsely : Prop := parseSpacedRow.holds Tryz.pinned (OpenSpec.ofChange parseSpacedWrong)

/-- 'scribelaw13.ParseInner': WHATEVER THE INPUT: true; the input reads as it did. -/
def parseInnerSpec : ChangeSpec := { name := "parseInner", fn := fun _ => fun
  | [d] => { results := [.lit (.bool true)], args := [d] }
  | _ => none }
def parseInnerRow : OpenClaim := { program := "ytkfbldogmgofoaagreatdoor", sum := "b6831eb940a49772470feece8fb1e81986c4337a1e4fa9080f379b8faf34e237", func := "scribe/scribelaw13.ParseInner", spec := "parseInner", inPlace := ["internal/abi.NoEscape", "internal/bytealg.IndexByteString", "internal/bytealg.IndexString"], unfollowed := true, recurses := true, named := ["scribe/lex.words", "scribe/lex.builtins", "scribe/lex.banned", "internal/bytealg.MaxLen", "internal/strconv.uint64pow10", "math/bits.deBruijn32tab", "math/bits.deBruijn64tab"], plainKeys := false, apart := false, laid := [("math/bits.deBruijn32tab", laid_math_bits_deBruijn32tab), ("math/bits.deBruijn64tab", laid_math_bits_deBruijn64tab), ("internal/strconv.uint64pow10", laid_internal_strconv_uint64pow10), ("scribe/lex.words", laid_scribe_lex_words), ("scribe/lex.builtins", laid_scribe_lex_builtins), ("scribe/lex.banned", laid_scribe_lex_banned)] }
def ParseInnerSaid : Prop := parseInnerRow.holds Tryz.pinned (OpenSpec.ofChange parseInnerSpec)

/-- ITS FALSE NEIGHBOUR: 'it returns false'. Refute it at one input. -/
def parseInnerWrong : ChangeSpec := { name := "parseInner", fn := fun _ => fun
  | [d] => { results := [.lit (.bool false)], args := [d] }
  | _ => none }
def ParseInnerWrongFalsely : Prop := parseInnerRow.holds Tryz.pinned (OpenSpec.ofChange parseInnerWrong)

/-- 'scribelaw13.ParseOrder': WHATEVER THE INPUT: true; the input reads as it did. -/
def parseOrderSpec : ChangeSpec := { name := "parseOrder", fn := fun _ => fun
  | [d1, d2] => { results := [.lit (.bool true)], args := [d1, d2] }
  | _ => none }
def parseOrderRow : OpenClaim := { program := "ytkfbldogmgofoaagreatdoor", sum := "b6831eb940a49772470feece8fb1e81986c4337a1e4fa9080f379b8faf34e237", func := "scribe/scribelaw13.ParseOrder", spec := "parseOrder", inPlace := ["internal/abi.NoEscape", "internal/bytealg.IndexByteString", "internal/bytealg.IndexString"], unfollowed := true, recurses := true, named := ["scribe/lex.words", "scribe/lex.builtins", "scribe/lex.banned", "internal/bytealg.MaxLen", "internal/strconv.uint64pow10", "math/bits.deBruijn32tab", "math/bits.deBruijn64tab"], plainKeys := false, apart := false, laid := [("math/bits.deBruijn32tab", laid_math_bits_deBruijn32tab), ("math/bits.deBruijn64tab", laid_math_bits_deBruijn64tab), ("internal/strconv.uint64pow10", laid_internal_strconv_uint64pow10), ("scribe/lex.words", laid_scribe_lex_words), ("scribe/lex.builtins", laid_scribe_lex_builtins), ("scribe/lex.banned", laid_scribe_lex_banned)] }
def ParseOrderSaid : Prop := parseOrderRow.holds Tryz.pinned (OpenSpec.ofChange parseOrderSpec)

/-- ITS FALSE NEIGHBOUR: 'it returns false'. Refute it at one input. -/
def parseOrderWrong : ChangeSpec := { name := "parseOrder", fn := fun _ => fun
  | [d1, d2] => { results := [.lit (.bool false)], args := [d1, d2] }
  | _ => none }
def ParseOrderWrongFalsely : Prop := parseOrderRow.holds Tryz.pinned (OpenSpec.ofChange parseOrderWrong)

/- THE SECOND FORM. 'bulk': how many values and letters a reading holds, each counted each time it is reached (what is shared counts as often as it is met; a slice's spare places count too). A statement '..UptoSaid' is the law's where the arguments, and the package variables that the reading takes, are together of bulk at most 1048576: NARROWER than '..Said'. Prove '..Said' where nothing that the law and all that it calls make is longer than what came in: it says more and counts as full. Else prove '..UptoSaid'. A law counts once. -/
mutual
def uptoBulk {H : Type} : DataW H → Nat
  | .lit (.string bytes) => bytes.length + 1
  | .lit _ => 1
  | .nil => 1
  | .ptr d => uptoBulk d + 1
  | .slice elems spare => uptoBulkAll elems + uptoBulkAll spare + 1
  | .agg parts => uptoBulkAll parts + 1
  | .iface _ d => uptoBulk d + 1
  | .map entries => uptoBulkEntries entries + 1
  | .held _ => 1
def uptoBulkAll {H : Type} : List (DataW H) → Nat
  | [] => 0
  | d :: r => uptoBulk d + uptoBulkAll r
def uptoBulkEntries {H : Type} : List (Lit × DataW H) → Nat
  | [] => 0
  | x :: r => uptoBulkEntry x + uptoBulkEntries r
def uptoBulkEntry {H : Type} : Lit × DataW H → Nat
  | (.string bytes, d) => bytes.length + uptoBulk d + 1
  | (_, d) => uptoBulk d + 1
 end
def uptoSmall : (H : Type) → List (DataW H) → Bool := fun _ ds => decide (uptoBulkAll ds ≤ 1048576)
def OpenSpec.upto (s : _root_.Go.ChangeSpec) : _root_.Go.OpenSpec := { _root_.Go.OpenSpec.ofChange s with cond := some uptoSmall }

/-- 'scribelaw14.ResolveTold', WHERE WHAT IT READS IS OF BULK AT MOST 1048576: true; the input reads as it did. -/
def resolveToldUptoRow : OpenClaim := { program := "ytkfbldogmgofoaagreatdoor", sum := "b6831eb940a49772470feece8fb1e81986c4337a1e4fa9080f379b8faf34e237", func := "scribe/scribelaw14.ResolveTold", spec := "resolveTold", inPlace := ["internal/abi.NoEscape", "internal/bytealg.IndexByteString", "internal/bytealg.IndexString"], unfollowed := true, recurses := true, named := ["scribe/lex.words", "scribe/lex.builtins", "scribe/lex.banned", "internal/bytealg.MaxLen", "scribe/resolve.special"], plainKeys := false, apart := false, laid := [("scribe/lex.words", laid_scribe_lex_words), ("scribe/lex.builtins", laid_scribe_lex_builtins), ("scribe/lex.banned", laid_scribe_lex_banned), ("scribe/resolve.special", laid_scribe_resolve_special)], narrowed := true }
def ResolveToldUptoSaid : Prop := resolveToldUptoRow.holds Tryz.pinned (OpenSpec.upto resolveToldSpec)

/-- 'scribelaw14.ResolveTwice', WHERE WHAT IT READS IS OF BULK AT MOST 1048576: true; the input reads as it did. -/
def resolveTwiceUptoRow : OpenClaim := { program := "ytkfbldogmgofoaagreatdoor", sum := "b6831eb940a49772470feece8fb1e81986c4337a1e4fa9080f379b8faf34e237", func := "scribe/scribelaw14.ResolveTwice", spec := "resolveTwice", inPlace := ["internal/abi.NoEscape", "internal/bytealg.IndexByteString", "internal/bytealg.IndexString"], unfollowed := true, recurses := true, named := ["scribe/lex.words", "scribe/lex.builtins", "scribe/lex.banned", "internal/bytealg.MaxLen", "scribe/resolve.special"], plainKeys := false, apart := false, laid := [("scribe/lex.words", laid_scribe_lex_words), ("scribe/lex.builtins", laid_scribe_lex_builtins), ("scribe/lex.banned", laid_scribe_lex_banned), ("scribe/resolve.special", laid_scribe_resolve_special)], narrowed := true }
def ResolveTwiceUptoSaid : Prop := resolveTwiceUptoRow.holds Tryz.pinned (OpenSpec.upto resolveTwiceSpec)

/-- 'scribelaw14.ResolveStray', WHERE WHAT IT READS IS OF BULK AT MOST 1048576: true; the input reads as it did. -/
def resolveStrayUptoRow : OpenClaim := { program := "ytkfbldogmgofoaagreatdoor", sum := "b6831eb940a49772470feece8fb1e81986c4337a1e4fa9080f379b8faf34e237", func := "scribe/scribelaw14.ResolveStray", spec := "resolveStray", inPlace := ["internal/abi.NoEscape", "internal/bytealg.IndexByteString", "internal/bytealg.IndexString"], unfollowed := true, recurses := true, named := ["scribe/lex.words", "scribe/lex.builtins", "scribe/lex.banned", "internal/bytealg.MaxLen", "scribe/resolve.special"], plainKeys := false, apart := false, laid := [("scribe/lex.words", laid_scribe_lex_words), ("scribe/lex.builtins", laid_scribe_lex_builtins), ("scribe/lex.banned", laid_scribe_lex_banned), ("scribe/resolve.special", laid_scribe_resolve_special)], narrowed := true }
def ResolveStrayUptoSaid : Prop := resolveStrayUptoRow.holds Tryz.pinned (OpenSpec.upto resolveStraySpec)

/-- 'scribelaw13.ParseTold', WHERE WHAT IT READS IS OF BULK AT MOST 1048576: true; the input reads as it did. -/
def parseToldUptoRow : OpenClaim := { program := "ytkfbldogmgofoaagreatdoor", sum := "b6831eb940a49772470feece8fb1e81986c4337a1e4fa9080f379b8faf34e237", func := "scribe/scribelaw13.ParseTold", spec := "parseTold", inPlace := ["internal/abi.NoEscape", "internal/bytealg.IndexByteString", "internal/bytealg.IndexString"], unfollowed := true, recurses := true, named := ["scribe/lex.words", "scribe/lex.builtins", "scribe/lex.banned", "internal/bytealg.MaxLen", "internal/strconv.uint64pow10", "math/bits.deBruijn32tab", "math/bits.deBruijn64tab"], plainKeys := false, apart := false, laid := [("math/bits.deBruijn32tab", laid_math_bits_deBruijn32tab), ("math/bits.deBruijn64tab", laid_math_bits_deBruijn64tab), ("internal/strconv.uint64pow10", laid_internal_strconv_uint64pow10), ("scribe/lex.words", laid_scribe_lex_words), ("scribe/lex.builtins", laid_scribe_lex_builtins), ("scribe/lex.banned", laid_scribe_lex_banned)], narrowed := true }
def ParseToldUptoSaid : Prop := parseToldUptoRow.holds Tryz.pinned (OpenSpec.upto parseToldSpec)

/-- 'scribelaw13.ParseBanned', WHERE WHAT IT READS IS OF BULK AT MOST 1048576: true; the input reads as it did. -/
def parseBannedUptoRow : OpenClaim := { program := "ytkfbldogmgofoaagreatdoor", sum := "b6831eb940a49772470feece8fb1e81986c4337a1e4fa9080f379b8faf34e237", func := "scribe/scribelaw13.ParseBanned", spec := "parseBanned", inPlace := ["internal/abi.NoEscape", "internal/bytealg.IndexByteString", "internal/bytealg.IndexString"], unfollowed := true, recurses := true, named := ["scribe/lex.words", "scribe/lex.builtins", "scribe/lex.banned", "internal/bytealg.MaxLen", "internal/strconv.uint64pow10", "math/bits.deBruijn32tab", "math/bits.deBruijn64tab"], plainKeys := false, apart := false, laid := [("math/bits.deBruijn32tab", laid_math_bits_deBruijn32tab), ("math/bits.deBruijn64tab", laid_math_bits_deBruijn64tab), ("internal/strconv.uint64pow10", laid_internal_strconv_uint64pow10), ("scribe/lex.words", laid_scribe_lex_words), ("scribe/lex.builtins", laid_scribe_lex_builtins), ("scribe/lex.banned", laid_scribe_lex_banned)], narrowed := true }
def ParseBannedUptoSaid : Prop := parseBannedUptoRow.holds Tryz.pinned (OpenSpec.upto parseBannedSpec)

/-- 'scribelaw13.ParseDeep', WHERE WHAT IT READS IS OF BULK AT MOST 1048576: true; the input reads as it did. -/
def parseDeepUptoRow : OpenClaim := { program := "ytkfbldogmgofoaagreatdoor", sum := "b6831eb940a49772470feece8fb1e81986c4337a1e4fa9080f379b8faf34e237", func := "scribe/scribelaw13.ParseDeep", spec := "parseDeep", inPlace := ["internal/abi.NoEscape", "internal/bytealg.IndexByteString", "internal/bytealg.IndexString"], unfollowed := true, recurses := true, named := ["scribe/lex.words", "scribe/lex.builtins", "scribe/lex.banned", "internal/bytealg.MaxLen", "internal/strconv.uint64pow10", "math/bits.deBruijn32tab", "math/bits.deBruijn64tab"], plainKeys := false, apart := false, laid := [("math/bits.deBruijn32tab", laid_math_bits_deBruijn32tab), ("math/bits.deBruijn64tab", laid_math_bits_deBruijn64tab), ("internal/strconv.uint64pow10", laid_internal_strconv_uint64pow10), ("scribe/lex.words", laid_scribe_lex_words), ("scribe/lex.builtins", laid_scribe_lex_builtins), ("scribe/lex.banned", laid_scribe_lex_banned)], narrowed := true }
def ParseDeepUptoSaid : Prop := parseDeepUptoRow.holds Tryz.pinned (OpenSpec.upto parseDeepSpec)

/-- 'scribelaw13.ParseLines', WHERE WHAT IT READS IS OF BULK AT MOST 1048576: true; the input reads as it did. -/
def parseLinesUptoRow : OpenClaim := { program := "ytkfbldogmgofoaagreatdoor", sum := "b6831eb940a49772470feece8fb1e81986c4337a1e4fa9080f379b8faf34e237", func := "scribe/scribelaw13.ParseLines", spec := "parseLines", inPlace := ["internal/abi.NoEscape", "internal/bytealg.IndexByteString", "internal/bytealg.IndexString"], unfollowed := true, recurses := true, named := ["scribe/lex.words", "scribe/lex.builtins", "scribe/lex.banned", "internal/bytealg.MaxLen", "internal/strconv.uint64pow10", "math/bits.deBruijn32tab", "math/bits.deBruijn64tab"], plainKeys := false, apart := false, laid := [("math/bits.deBruijn32tab", laid_math_bits_deBruijn32tab), ("math/bits.deBruijn64tab", laid_math_bits_deBruijn64tab), ("internal/strconv.uint64pow10", laid_internal_strconv_uint64pow10), ("scribe/lex.words", laid_scribe_lex_words), ("scribe/lex.builtins", laid_scribe_lex_builtins), ("scribe/lex.banned", laid_scribe_lex_banned)], narrowed := true }
def ParseLinesUptoSaid : Prop := parseLinesUptoRow.holds Tryz.pinned (OpenSpec.upto parseLinesSpec)

/-- 'scribelaw13.ParseSpaced', WHERE WHAT IT READS IS OF BULK AT MOST 1048576: true; the input reads as it did. -/
def parseSpacedUptoRow : OpenClaim := { program := "ytkfbldogmgofoaagreatdoor", sum := "b6831eb940a49772470feece8fb1e81986c4337a1e4fa9080f379b8faf34e237", func := "scribe/scribelaw13.ParseSpaced", spec := "parseSpaced", inPlace := ["internal/abi.NoEscape", "internal/bytealg.IndexByteString", "internal/bytealg.IndexString"], unfollowed := true, recurses := true, named := ["scribe/lex.words", "scribe/lex.builtins", "scribe/lex.banned", "internal/bytealg.MaxLen", "internal/strconv.uint64pow10", "math/bits.deBruijn32tab", "math/bits.deBruijn64tab"], plainKeys := false, apart := false, laid := [("math/bits.deBruijn32tab", laid_math_bits_deBruijn32tab), ("math/bits.deBruijn64tab", laid_math_bits_deBruijn64tab), ("internal/strconv.uint64pow10", laid_internal_strconv_uint64pow10), ("scribe/lex.words", laid_scribe_lex_words), ("scribe/lex.builtins", laid_scribe_lex_builtins), ("scribe/lex.banned", laid_scribe_lex_banned)], narrowed := true }
def ParseSpacedUptoSaid : Prop := parseSpacedUptoRow.holds Tryz.pinned (OpenSpec.upto parseSpacedSpec)

/-- 'scribelaw13.ParseInner', WHERE WHAT IT READS IS OF BULK AT MOST 1048576: true; the input reads as it did. -/
def parseInnerUptoRow : OpenClaim := { program := "ytkfbldogmgofoaagreatdoor", sum := "b6831eb940a49772470feece8fb1e81986c4337a1e4fa9080f379b8faf34e237", func := "scribe/scribelaw13.ParseInner", spec := "parseInner", inPlace := ["internal/abi.NoEscape", "internal/bytealg.IndexByteString", "internal/bytealg.IndexString"], unfollowed := true, recurses := true, named := ["scribe/lex.words", "scribe/lex.builtins", "scribe/lex.banned", "internal/bytealg.MaxLen", "internal/strconv.uint64pow10", "math/bits.deBruijn32tab", "math/bits.deBruijn64tab"], plainKeys := false, apart := false, laid := [("math/bits.deBruijn32tab", laid_math_bits_deBruijn32tab), ("math/bits.deBruijn64tab", laid_math_bits_deBruijn64tab), ("internal/strconv.uint64pow10", laid_internal_strconv_uint64pow10), ("scribe/lex.words", laid_scribe_lex_words), ("scribe/lex.builtins", laid_scribe_lex_builtins), ("scribe/lex.banned", laid_scribe_lex_banned)], narrowed := true }
def ParseInnerUptoSaid : Prop := parseInnerUptoRow.holds Tryz.pinned (OpenSpec.upto parseInnerSpec)

/-- 'scribelaw13.ParseOrder', WHERE WHAT IT READS IS OF BULK AT MOST 1048576: true; the input reads as it did. -/
def parseOrderUptoRow : OpenClaim := { program := "ytkfbldogmgofoaagreatdoor", sum := "b6831eb940a49772470feece8fb1e81986c4337a1e4fa9080f379b8faf34e237", func := "scribe/scribelaw13.ParseOrder", spec := "parseOrder", inPlace := ["internal/abi.NoEscape", "internal/bytealg.IndexByteString", "internal/bytealg.IndexString"], unfollowed := true, recurses := true, named := ["scribe/lex.words", "scribe/lex.builtins", "scribe/lex.banned", "internal/bytealg.MaxLen", "internal/strconv.uint64pow10", "math/bits.deBruijn32tab", "math/bits.deBruijn64tab"], plainKeys := false, apart := false, laid := [("math/bits.deBruijn32tab", laid_math_bits_deBruijn32tab), ("math/bits.deBruijn64tab", laid_math_bits_deBruijn64tab), ("internal/strconv.uint64pow10", laid_internal_strconv_uint64pow10), ("scribe/lex.words", laid_scribe_lex_words), ("scribe/lex.builtins", laid_scribe_lex_builtins), ("scribe/lex.banned", laid_scribe_lex_banned)], narrowed := true }
def ParseOrderUptoSaid : Prop := parseOrderUptoRow.holds Tryz.pinned (OpenSpec.upto parseOrderSpec)

end Rows
end Go.Proofs.YtkfbldogmgofoaaGreatDoor
