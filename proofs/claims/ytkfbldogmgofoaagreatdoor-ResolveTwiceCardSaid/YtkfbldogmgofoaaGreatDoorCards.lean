/-
  DERIVED. GIVEN WITH THE SEED: THE CARDS: each row of YtkfbldogmgofoaaGreatDoorRows.lean that lists a variable, with what it lists TIED to the program's text (the seventh form; the later family's looks); each row that meets fmt, with fmt's text TOLD by the authors' own Lean function (tested against real Go, not proved from fmt's source: count such statements apart). THE CARD IS WHAT COUNTS. Prove the row's statement (the work); the ties are given (YtkfbldogmgofoaaGreatDoorTie.lean); close each card by the builder's one call (the guide's Derived/Test/ToyasCard.lean, 'card_holds'). Laid BY PROGRAM, IN A SANDBOX (cutbox-door.mjs). By AI agents, Wed Nov 11 2026. No macro, syntax, notation, axiom, sorry.
-/
import Derived.Test.YtkfbldogmgofoaaGreatDoorRows
import GoSem.ClaimSeven
namespace Go.Proofs.YtkfbldogmgofoaaGreatDoor
namespace Rows

/-- THE TIED CARD OF 'scribelaw14.ResolveTold'. -/
def resolveToldCard : Claim7 := { stood := { row := resolveToldRow, standIns := [], harness := (true, "940a08ca661267cf0838873448a6070153acbc0a0ad72a3c6dd6014d7f7e68da"), looks := false }, kinds := [], alts := [], laidByText := true, laidKinds := [.widerDeep, .widerDeep, .widerDeep, .widerDeep], laidTests := true, laidLooks := .later }
def ResolveToldCardSaid : Prop := Claim7.holds Tryz.pinned (.plain (OpenSpec.ofChange resolveToldSpec)) resolveToldCard

/-- THE TIED CARD OF 'scribelaw14.ResolveTwice'. -/
def resolveTwiceCard : Claim7 := { stood := { row := resolveTwiceRow, standIns := [], harness := (true, "940a08ca661267cf0838873448a6070153acbc0a0ad72a3c6dd6014d7f7e68da"), looks := false }, kinds := [], alts := [], laidByText := true, laidKinds := [.widerDeep, .widerDeep, .widerDeep, .widerDeep], laidTests := true, laidLooks := .later }
def ResolveTwiceCardSaid : Prop := Claim7.holds Tryz.pinned (.plain (OpenSpec.ofChange resolveTwiceSpec)) resolveTwiceCard

/-- THE TIED CARD OF 'scribelaw14.ResolveStray'. -/
def resolveStrayCard : Claim7 := { stood := { row := resolveStrayRow, standIns := [], harness := (true, "940a08ca661267cf0838873448a6070153acbc0a0ad72a3c6dd6014d7f7e68da"), looks := false }, kinds := [], alts := [], laidByText := true, laidKinds := [.widerDeep, .widerDeep, .widerDeep, .widerDeep], laidTests := true, laidLooks := .later }
def ResolveStrayCardSaid : Prop := Claim7.holds Tryz.pinned (.plain (OpenSpec.ofChange resolveStraySpec)) resolveStrayCard

/-- THE TIED CARD OF 'scribelaw13.ParseTold'. -/
def parseToldCard : Claim7 := { stood := { row := parseToldRow, standIns := [], harness := (true, "940a08ca661267cf0838873448a6070153acbc0a0ad72a3c6dd6014d7f7e68da"), looks := false }, kinds := [], alts := [], laidByText := true, laidKinds := [.data, .data, .data, .widerDeep, .widerDeep, .widerDeep], laidTests := true, laidLooks := .later }
def ParseToldCardSaid : Prop := Claim7.holds Tryz.pinned (.plain (OpenSpec.ofChange parseToldSpec)) parseToldCard

/-- THE TIED CARD OF 'scribelaw13.ParseBanned'. -/
def parseBannedCard : Claim7 := { stood := { row := parseBannedRow, standIns := [], harness := (true, "940a08ca661267cf0838873448a6070153acbc0a0ad72a3c6dd6014d7f7e68da"), looks := false }, kinds := [], alts := [], laidByText := true, laidKinds := [.data, .data, .data, .widerDeep, .widerDeep, .widerDeep], laidTests := true, laidLooks := .later }
def ParseBannedCardSaid : Prop := Claim7.holds Tryz.pinned (.plain (OpenSpec.ofChange parseBannedSpec)) parseBannedCard

/-- THE TIED CARD OF 'scribelaw13.ParseDeep'. -/
def parseDeepCard : Claim7 := { stood := { row := parseDeepRow, standIns := [], harness := (true, "940a08ca661267cf0838873448a6070153acbc0a0ad72a3c6dd6014d7f7e68da"), looks := false }, kinds := [], alts := [], laidByText := true, laidKinds := [.data, .data, .data, .widerDeep, .widerDeep, .widerDeep], laidTests := true, laidLooks := .later }
def ParseDeepCardSaid : Prop := Claim7.holds Tryz.pinned (.plain (OpenSpec.ofChange parseDeepSpec)) parseDeepCard

/-- THE TIED CARD OF 'scribelaw13.ParseLines'. -/
def parseLinesCard : Claim7 := { stood := { row := parseLinesRow, standIns := [], harness := (true, "940a08ca661267cf0838873448a6070153acbc0a0ad72a3c6dd6014d7f7e68da"), looks := false }, kinds := [], alts := [], laidByText := true, laidKinds := [.data, .data, .data, .widerDeep, .widerDeep, .widerDeep], laidTests := true, laidLooks := .later }
def ParseLinesCardSaid : Prop := Claim7.holds Tryz.pinned (.plain (OpenSpec.ofChange parseLinesSpec)) parseLinesCard

/-- THE TIED CARD OF 'scribelaw13.ParseSpaced'. -/
def parseSpacedCard : Claim7 := { stood := { row := parseSpacedRow, standIns := [], harness := (true, "940a08ca661267cf0838873448a6070153acbc0a0ad72a3c6dd6014d7f7e68da"), looks := false }, kinds := [], alts := [], laidByText := true, laidKinds := [.data, .data, .data, .widerDeep, .widerDeep, .widerDeep], laidTests := true, laidLooks := .later }
def ParseSpacedCardSaid : Prop := Claim7.holds Tryz.pinned (.plain (OpenSpec.ofChange parseSpacedSpec)) parseSpacedCard

/-- THE TIED CARD OF 'scribelaw13.ParseInner'. -/
def parseInnerCard : Claim7 := { stood := { row := parseInnerRow, standIns := [], harness := (true, "940a08ca661267cf0838873448a6070153acbc0a0ad72a3c6dd6014d7f7e68da"), looks := false }, kinds := [], alts := [], laidByText := true, laidKinds := [.data, .data, .data, .widerDeep, .widerDeep, .widerDeep], laidTests := true, laidLooks := .later }
def ParseInnerCardSaid : Prop := Claim7.holds Tryz.pinned (.plain (OpenSpec.ofChange parseInnerSpec)) parseInnerCard

/-- THE TIED CARD OF 'scribelaw13.ParseOrder'. -/
def parseOrderCard : Claim7 := { stood := { row := parseOrderRow, standIns := [], harness := (true, "940a08ca661267cf0838873448a6070153acbc0a0ad72a3c6dd6014d7f7e68da"), looks := false }, kinds := [], alts := [], laidByText := true, laidKinds := [.data, .data, .data, .widerDeep, .widerDeep, .widerDeep], laidTests := true, laidLooks := .later }
def ParseOrderCardSaid : Prop := Claim7.holds Tryz.pinned (.plain (OpenSpec.ofChange parseOrderSpec)) parseOrderCard

/-- THE SECOND FORM's CARD OF 'scribelaw14.ResolveTold'. -/
def resolveToldUptoCard : Claim7 := { stood := { row := resolveToldUptoRow, standIns := [], harness := (true, "940a08ca661267cf0838873448a6070153acbc0a0ad72a3c6dd6014d7f7e68da"), looks := false }, kinds := [], alts := [], laidByText := true, laidKinds := [.widerDeep, .widerDeep, .widerDeep, .widerDeep], laidTests := true, laidLooks := .later }
def ResolveToldUptoCardSaid : Prop := Claim7.holds Tryz.pinned (.plain (OpenSpec.upto resolveToldSpec)) resolveToldUptoCard

/-- THE SECOND FORM's CARD OF 'scribelaw14.ResolveTwice'. -/
def resolveTwiceUptoCard : Claim7 := { stood := { row := resolveTwiceUptoRow, standIns := [], harness := (true, "940a08ca661267cf0838873448a6070153acbc0a0ad72a3c6dd6014d7f7e68da"), looks := false }, kinds := [], alts := [], laidByText := true, laidKinds := [.widerDeep, .widerDeep, .widerDeep, .widerDeep], laidTests := true, laidLooks := .later }
def ResolveTwiceUptoCardSaid : Prop := Claim7.holds Tryz.pinned (.plain (OpenSpec.upto resolveTwiceSpec)) resolveTwiceUptoCard

/-- THE SECOND FORM's CARD OF 'scribelaw14.ResolveStray'. -/
def resolveStrayUptoCard : Claim7 := { stood := { row := resolveStrayUptoRow, standIns := [], harness := (true, "940a08ca661267cf0838873448a6070153acbc0a0ad72a3c6dd6014d7f7e68da"), looks := false }, kinds := [], alts := [], laidByText := true, laidKinds := [.widerDeep, .widerDeep, .widerDeep, .widerDeep], laidTests := true, laidLooks := .later }
def ResolveStrayUptoCardSaid : Prop := Claim7.holds Tryz.pinned (.plain (OpenSpec.upto resolveStraySpec)) resolveStrayUptoCard

/-- THE SECOND FORM's CARD OF 'scribelaw13.ParseTold'. -/
def parseToldUptoCard : Claim7 := { stood := { row := parseToldUptoRow, standIns := [], harness := (true, "940a08ca661267cf0838873448a6070153acbc0a0ad72a3c6dd6014d7f7e68da"), looks := false }, kinds := [], alts := [], laidByText := true, laidKinds := [.data, .data, .data, .widerDeep, .widerDeep, .widerDeep], laidTests := true, laidLooks := .later }
def ParseToldUptoCardSaid : Prop := Claim7.holds Tryz.pinned (.plain (OpenSpec.upto parseToldSpec)) parseToldUptoCard

/-- THE SECOND FORM's CARD OF 'scribelaw13.ParseBanned'. -/
def parseBannedUptoCard : Claim7 := { stood := { row := parseBannedUptoRow, standIns := [], harness := (true, "940a08ca661267cf0838873448a6070153acbc0a0ad72a3c6dd6014d7f7e68da"), looks := false }, kinds := [], alts := [], laidByText := true, laidKinds := [.data, .data, .data, .widerDeep, .widerDeep, .widerDeep], laidTests := true, laidLooks := .later }
def ParseBannedUptoCardSaid : Prop := Claim7.holds Tryz.pinned (.plain (OpenSpec.upto parseBannedSpec)) parseBannedUptoCard

/-- THE SECOND FORM's CARD OF 'scribelaw13.ParseDeep'. -/
def parseDeepUptoCard : Claim7 := { stood := { row := parseDeepUptoRow, standIns := [], harness := (true, "940a08ca661267cf0838873448a6070153acbc0a0ad72a3c6dd6014d7f7e68da"), looks := false }, kinds := [], alts := [], laidByText := true, laidKinds := [.data, .data, .data, .widerDeep, .widerDeep, .widerDeep], laidTests := true, laidLooks := .later }
def ParseDeepUptoCardSaid : Prop := Claim7.holds Tryz.pinned (.plain (OpenSpec.upto parseDeepSpec)) parseDeepUptoCard

/-- THE SECOND FORM's CARD OF 'scribelaw13.ParseLines'. -/
def parseLinesUptoCard : Claim7 := { stood := { row := parseLinesUptoRow, standIns := [], harness := (true, "940a08ca661267cf0838873448a6070153acbc0a0ad72a3c6dd6014d7f7e68da"), looks := false }, kinds := [], alts := [], laidByText := true, laidKinds := [.data, .data, .data, .widerDeep, .widerDeep, .widerDeep], laidTests := true, laidLooks := .later }
def ParseLinesUptoCardSaid : Prop := Claim7.holds Tryz.pinned (.plain (OpenSpec.upto parseLinesSpec)) parseLinesUptoCard

/-- THE SECOND FORM's CARD OF 'scribelaw13.ParseSpaced'. -/
def parseSpacedUptoCard : Claim7 := { stood := { row := parseSpacedUptoRow, standIns := [], harness := (true, "940a08ca661267cf0838873448a6070153acbc0a0ad72a3c6dd6014d7f7e68da"), looks := false }, kinds := [], alts := [], laidByText := true, laidKinds := [.data, .data, .data, .widerDeep, .widerDeep, .widerDeep], laidTests := true, laidLooks := .later }
def ParseSpacedUptoCardSaid : Prop := Claim7.holds Tryz.pinned (.plain (OpenSpec.upto parseSpacedSpec)) parseSpacedUptoCard

/-- THE SECOND FORM's CARD OF 'scribelaw13.ParseInner'. -/
def parseInnerUptoCard : Claim7 := { stood := { row := parseInnerUptoRow, standIns := [], harness := (true, "940a08ca661267cf0838873448a6070153acbc0a0ad72a3c6dd6014d7f7e68da"), looks := false }, kinds := [], alts := [], laidByText := true, laidKinds := [.data, .data, .data, .widerDeep, .widerDeep, .widerDeep], laidTests := true, laidLooks := .later }
def ParseInnerUptoCardSaid : Prop := Claim7.holds Tryz.pinned (.plain (OpenSpec.upto parseInnerSpec)) parseInnerUptoCard

/-- THE SECOND FORM's CARD OF 'scribelaw13.ParseOrder'. -/
def parseOrderUptoCard : Claim7 := { stood := { row := parseOrderUptoRow, standIns := [], harness := (true, "940a08ca661267cf0838873448a6070153acbc0a0ad72a3c6dd6014d7f7e68da"), looks := false }, kinds := [], alts := [], laidByText := true, laidKinds := [.data, .data, .data, .widerDeep, .widerDeep, .widerDeep], laidTests := true, laidLooks := .later }
def ParseOrderUptoCardSaid : Prop := Claim7.holds Tryz.pinned (.plain (OpenSpec.upto parseOrderSpec)) parseOrderUptoCard
end Rows
end Go.Proofs.YtkfbldogmgofoaaGreatDoor
