/-
  DERIVED. GIVEN WITH THE SEED: THE CARDS: each row of YtijipnkdabdioabGreatDoorRows.lean that lists a variable, with what it lists TIED to the program's text (the seventh form; the later family's looks); each row that meets fmt, with fmt's text TOLD by the authors' own Lean function (tested against real Go, not proved from fmt's source: count such statements apart). THE CARD IS WHAT COUNTS. Prove the row's statement (the work); the ties are given (YtijipnkdabdioabGreatDoorTie.lean); close each card by the builder's one call (the guide's Derived/Test/ToyasCard.lean, 'card_holds'). Laid BY PROGRAM, IN A SANDBOX (cutbox-door.mjs). By AI agents, Wed Nov 11 2026. No macro, syntax, notation, axiom, sorry.
-/
import Derived.Test.YtijipnkdabdioabGreatDoorRows
import GoSem.ClaimSeven
namespace Go.Proofs.YtijipnkdabdioabGreatDoor
namespace Rows

/-- THE TIED CARD OF 'scribelaw04.JournalDrops'. -/
def journalDropsCard : Claim7 := { stood := { row := journalDropsRow, standIns := [], harness := (true, "b9a4e89c5c9842b1f94774752945909be82807c765f302146214d701490345bc"), looks := true }, kinds := [], alts := [], laidByText := true, laidKinds := [.data, .data, .data, .sentinel, .sentinel], laidTests := true, laidLooks := .later }
def JournalDropsCardSaid : Prop := Claim7.holds Tryz.pinned (.plain (OpenSpec.ofChange journalDropsSpec)) journalDropsCard

/-- THE SECOND FORM's CARD OF 'scribelaw04.JournalDrops'. -/
def journalDropsUptoCard : Claim7 := { stood := { row := journalDropsUptoRow, standIns := [], harness := (true, "b9a4e89c5c9842b1f94774752945909be82807c765f302146214d701490345bc"), looks := true }, kinds := [], alts := [], laidByText := true, laidKinds := [.data, .data, .data, .sentinel, .sentinel], laidTests := true, laidLooks := .later }
def JournalDropsUptoCardSaid : Prop := Claim7.holds Tryz.pinned (.plain (OpenSpec.upto journalDropsSpec)) journalDropsUptoCard
end Rows
end Go.Proofs.YtijipnkdabdioabGreatDoor
