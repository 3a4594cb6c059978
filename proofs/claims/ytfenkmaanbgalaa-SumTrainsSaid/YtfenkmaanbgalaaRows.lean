/-
  No cell of these rows narrows 'for every input' (looked for: loops, veiled, ifaces, maps, wideKeys, modest, calm, conditions, laid).
  DERIVED. THE GIVEN ROWS OF THIS SEAT. 7 by the template 'for every input the law returns true; each argument reads behind the call as it read before'; 0 by the template 'total and deterministic' (their statements: YtfenkmaanbgalaaTotals.lean).
  GIVEN WITH THE SEED: the statements are not yours to turn. If you find one false, say at which input.
  Laid BY PROGRAM, IN A SANDBOX (cutbox-rows.mjs): the forced cells as the released guide's own fill.sh prints them over the translation 8f4ba498bd71c5b8… (all of the seat's roots in one cut). By AI agents, Wed Nov 11 2026. No macro, syntax, notation, axiom, sorry.
-/
import Derived.Test.YtfenkmaanbgalaaChecked
import GoSem.Claim
import GoSem.ClaimJoined
import GoSem.ClaimMapViews
import Derived.JoinedTies
import Derived.KernelRfl
namespace Go.Proofs.Ytfenkmaanbgalaa
/- THE CELL 'sum', in the pinned program and in every row, IS THE sha256 OF THE DUMP (.gsa) THAT YtfenkmaanbgalaaProg.lean LOADS. Nothing in Lean hashes anything: it is a label: what it is worth is what the hold of that sum in a sandbox is worth. -/
noncomputable def Try.pinned : Pinned := { name := "ytfenkmaanbgalaa", sum := "8f4ba498bd71c5b82f7a8d4c2cb2849872b0352575d87da85fd95bcf7c89222b", checked := Try.checked }
namespace Rows
def none {H : Type} : Left H := { results := [], args := [] }

/-- 'scribelaw02.SumSums': WHATEVER THE INPUT: true; the input reads as it did. -/
def sumSumsSpec : ChangeSpec := { name := "sumSums", fn := fun _ => fun
  | [d1, d2, d3] => { results := [.lit (.bool true)], args := [d1, d2, d3] }
  | _ => none }
def sumSumsRow : OpenClaim := { program := "ytfenkmaanbgalaa", sum := "8f4ba498bd71c5b82f7a8d4c2cb2849872b0352575d87da85fd95bcf7c89222b", func := "scribe/scribelaw02.SumSums", spec := "sumSums", apart := false }
def SumSumsSaid : Prop := sumSumsRow.holds Try.pinned (OpenSpec.ofChange sumSumsSpec)

/-- ITS FALSE NEIGHBOUR: 'it returns false'. Refute it at one input. -/
def sumSumsWrong : ChangeSpec := { name := "sumSums", fn := fun _ => fun
  | [d1, d2, d3] => { results := [.lit (.bool false)], args := [d1, d2, d3] }
  | _ => none }
def SumSumsWrongFalsely : Prop := sumSumsRow.holds Try.pinned (OpenSpec.ofChange sumSumsWrong)

/-- 'scribelaw02.SumChanged': WHATEVER THE INPUT: true; the input reads as it did. -/
def sumChangedSpec : ChangeSpec := { name := "sumChanged", fn := fun _ => fun
  | [d1, d2, d3] => { results := [.lit (.bool true)], args := [d1, d2, d3] }
  | _ => none }
def sumChangedRow : OpenClaim := { program := "ytfenkmaanbgalaa", sum := "8f4ba498bd71c5b82f7a8d4c2cb2849872b0352575d87da85fd95bcf7c89222b", func := "scribe/scribelaw02.SumChanged", spec := "sumChanged", apart := false }
def SumChangedSaid : Prop := sumChangedRow.holds Try.pinned (OpenSpec.ofChange sumChangedSpec)

/-- ITS FALSE NEIGHBOUR: 'it returns false'. Refute it at one input. -/
def sumChangedWrong : ChangeSpec := { name := "sumChanged", fn := fun _ => fun
  | [d1, d2, d3] => { results := [.lit (.bool false)], args := [d1, d2, d3] }
  | _ => none }
def SumChangedWrongFalsely : Prop := sumChangedRow.holds Try.pinned (OpenSpec.ofChange sumChangedWrong)

/-- 'scribelaw02.SumTurned': WHATEVER THE INPUT: true; the input reads as it did. -/
def sumTurnedSpec : ChangeSpec := { name := "sumTurned", fn := fun _ => fun
  | [d1, d2] => { results := [.lit (.bool true)], args := [d1, d2] }
  | _ => none }
def sumTurnedRow : OpenClaim := { program := "ytfenkmaanbgalaa", sum := "8f4ba498bd71c5b82f7a8d4c2cb2849872b0352575d87da85fd95bcf7c89222b", func := "scribe/scribelaw02.SumTurned", spec := "sumTurned", apart := false }
def SumTurnedSaid : Prop := sumTurnedRow.holds Try.pinned (OpenSpec.ofChange sumTurnedSpec)

/-- ITS FALSE NEIGHBOUR: 'it returns false'. Refute it at one input. -/
def sumTurnedWrong : ChangeSpec := { name := "sumTurned", fn := fun _ => fun
  | [d1, d2] => { results := [.lit (.bool false)], args := [d1, d2] }
  | _ => none }
def SumTurnedWrongFalsely : Prop := sumTurnedRow.holds Try.pinned (OpenSpec.ofChange sumTurnedWrong)

/-- 'scribelaw02.SumHex': WHATEVER THE INPUT: true; the input reads as it did. -/
def sumHexSpec : ChangeSpec := { name := "sumHex", fn := fun _ => fun
  | [d1, d2, d3] => { results := [.lit (.bool true)], args := [d1, d2, d3] }
  | _ => none }
def sumHexRow : OpenClaim := { program := "ytfenkmaanbgalaa", sum := "8f4ba498bd71c5b82f7a8d4c2cb2849872b0352575d87da85fd95bcf7c89222b", func := "scribe/scribelaw02.SumHex", spec := "sumHex", apart := false }
def SumHexSaid : Prop := sumHexRow.holds Try.pinned (OpenSpec.ofChange sumHexSpec)

/-- ITS FALSE NEIGHBOUR: 'it returns false'. Refute it at one input. -/
def sumHexWrong : ChangeSpec := { name := "sumHex", fn := fun _ => fun
  | [d1, d2, d3] => { results := [.lit (.bool false)], args := [d1, d2, d3] }
  | _ => none }
def SumHexWrongFalsely : Prop := sumHexRow.holds Try.pinned (OpenSpec.ofChange sumHexWrong)

/-- 'scribelaw02.SumJoins': WHATEVER THE INPUT: true; the input reads as it did. -/
def sumJoinsSpec : ChangeSpec := { name := "sumJoins", fn := fun _ => fun
  | [d1, d2, d3] => { results := [.lit (.bool true)], args := [d1, d2, d3] }
  | _ => none }
def sumJoinsRow : OpenClaim := { program := "ytfenkmaanbgalaa", sum := "8f4ba498bd71c5b82f7a8d4c2cb2849872b0352575d87da85fd95bcf7c89222b", func := "scribe/scribelaw02.SumJoins", spec := "sumJoins", apart := false }
def SumJoinsSaid : Prop := sumJoinsRow.holds Try.pinned (OpenSpec.ofChange sumJoinsSpec)

/-- ITS FALSE NEIGHBOUR: 'it returns false'. Refute it at one input. -/
def sumJoinsWrong : ChangeSpec := { name := "sumJoins", fn := fun _ => fun
  | [d1, d2, d3] => { results := [.lit (.bool false)], args := [d1, d2, d3] }
  | _ => none }
def SumJoinsWrongFalsely : Prop := sumJoinsRow.holds Try.pinned (OpenSpec.ofChange sumJoinsWrong)

/-- 'scribelaw02.SumBoth': WHATEVER THE INPUT: true; the input reads as it did. -/
def sumBothSpec : ChangeSpec := { name := "sumBoth", fn := fun _ => fun
  | [d1, d2] => { results := [.lit (.bool true)], args := [d1, d2] }
  | _ => none }
def sumBothRow : OpenClaim := { program := "ytfenkmaanbgalaa", sum := "8f4ba498bd71c5b82f7a8d4c2cb2849872b0352575d87da85fd95bcf7c89222b", func := "scribe/scribelaw02.SumBoth", spec := "sumBoth", apart := false }
def SumBothSaid : Prop := sumBothRow.holds Try.pinned (OpenSpec.ofChange sumBothSpec)

/-- ITS FALSE NEIGHBOUR: 'it returns false'. Refute it at one input. -/
def sumBothWrong : ChangeSpec := { name := "sumBoth", fn := fun _ => fun
  | [d1, d2] => { results := [.lit (.bool false)], args := [d1, d2] }
  | _ => none }
def SumBothWrongFalsely : Prop := sumBothRow.holds Try.pinned (OpenSpec.ofChange sumBothWrong)

/-- 'scribelaw02.SumTrains': WHATEVER THE INPUT: true; the input reads as it did. -/
def sumTrainsSpec : ChangeSpec := { name := "sumTrains", fn := fun _ => fun
  | [d1, d2, d3] => { results := [.lit (.bool true)], args := [d1, d2, d3] }
  | _ => none }
def sumTrainsRow : OpenClaim := { program := "ytfenkmaanbgalaa", sum := "8f4ba498bd71c5b82f7a8d4c2cb2849872b0352575d87da85fd95bcf7c89222b", func := "scribe/scribelaw02.SumTrains", spec := "sumTrains", apart := false }
def SumTrainsSaid : Prop := sumTrainsRow.holds Try.pinned (OpenSpec.ofChange sumTrainsSpec)

/-- ITS FALSE NEIGHBOUR: 'it returns false'. Refute it at one input. -/
def sumTrainsWrong : ChangeSpec := { name := "sumTrains", fn := fun _ => fun
  | [d1, d2, d3] => { results := [.lit (.bool false)], args := [d1, d2, d3] }
  | _ => none }
def SumTrainsWrongFalsely : Prop := sumTrainsRow.holds Try.pinned (OpenSpec.ofChange sumTrainsWrong)

/- THE SECOND FORM. 'bulk': how many values and letters a reading holds, each counted each time it is reached (what is shared counts as often as it is met; a slice's spare places count too). A statement '..UptoSaid' is the law's where the arguments, and the package variables that the reading takes, are together of bulk at most 1048576: NARROWER than '..Said'. Prove '..Said' where nothing that the law and all that it calls make is longer than what came in: it says more and counts as full. Else prove '..UptoSaid'. A law counts once. -/
mutual
def uptoBulk {H : Type} : DataW H → Nat
  | .lit (.string bytes) => bytes.length + 1
  | .lit _ => 1
  | .nil => 1
  | .ptr d => uptoBulk d + 1
  | .slice elems spare => uptoBulkAll elems + uptoBulkAll spare + 1
  | .agg parts => uptoBulkAll parts + 1
  | .iface _ d => uptoBulk d + 1
  | .map entries => uptoBulkEntries entries + 1
  | .held _ => 1
def uptoBulkAll {H : Type} : List (DataW H) → Nat
  | [] => 0
  | d :: r => uptoBulk d + uptoBulkAll r
def uptoBulkEntries {H : Type} : List (Lit × DataW H) → Nat
  | [] => 0
  | x :: r => uptoBulkEntry x + uptoBulkEntries r
def uptoBulkEntry {H : Type} : Lit × DataW H → Nat
  | (.string bytes, d) => bytes.length + uptoBulk d + 1
  | (_, d) => uptoBulk d + 1
 end
def uptoSmall : (H : Type) → List (DataW H) → Bool := fun _ ds => decide (uptoBulkAll ds ≤ 1048576)
def OpenSpec.upto (s : _root_.Go.ChangeSpec) : _root_.Go.OpenSpec := { _root_.Go.OpenSpec.ofChange s with cond := some uptoSmall }

/-- 'scribelaw02.SumSums', WHERE WHAT IT READS IS OF BULK AT MOST 1048576: true; the input reads as it did. -/
def sumSumsUptoRow : OpenClaim := { program := "ytfenkmaanbgalaa", sum := "8f4ba498bd71c5b82f7a8d4c2cb2849872b0352575d87da85fd95bcf7c89222b", func := "scribe/scribelaw02.SumSums", spec := "sumSums", apart := false, narrowed := true }
def SumSumsUptoSaid : Prop := sumSumsUptoRow.holds Try.pinned (OpenSpec.upto sumSumsSpec)

/-- 'scribelaw02.SumChanged', WHERE WHAT IT READS IS OF BULK AT MOST 1048576: true; the input reads as it did. -/
def sumChangedUptoRow : OpenClaim := { program := "ytfenkmaanbgalaa", sum := "8f4ba498bd71c5b82f7a8d4c2cb2849872b0352575d87da85fd95bcf7c89222b", func := "scribe/scribelaw02.SumChanged", spec := "sumChanged", apart := false, narrowed := true }
def SumChangedUptoSaid : Prop := sumChangedUptoRow.holds Try.pinned (OpenSpec.upto sumChangedSpec)

/-- 'scribelaw02.SumTurned', WHERE WHAT IT READS IS OF BULK AT MOST 1048576: true; the input reads as it did. -/
def sumTurnedUptoRow : OpenClaim := { program := "ytfenkmaanbgalaa", sum := "8f4ba498bd71c5b82f7a8d4c2cb2849872b0352575d87da85fd95bcf7c89222b", func := "scribe/scribelaw02.SumTurned", spec := "sumTurned", apart := false, narrowed := true }
def SumTurnedUptoSaid : Prop := sumTurnedUptoRow.holds Try.pinned (OpenSpec.upto sumTurnedSpec)

/-- 'scribelaw02.SumHex', WHERE WHAT IT READS IS OF BULK AT MOST 1048576: true; the input reads as it did. -/
def sumHexUptoRow : OpenClaim := { program := "ytfenkmaanbgalaa", sum := "8f4ba498bd71c5b82f7a8d4c2cb2849872b0352575d87da85fd95bcf7c89222b", func := "scribe/scribelaw02.SumHex", spec := "sumHex", apart := false, narrowed := true }
def SumHexUptoSaid : Prop := sumHexUptoRow.holds Try.pinned (OpenSpec.upto sumHexSpec)

/-- 'scribelaw02.SumJoins', WHERE WHAT IT READS IS OF BULK AT MOST 1048576: true; the input reads as it did. -/
def sumJoinsUptoRow : OpenClaim := { program := "ytfenkmaanbgalaa", sum := "8f4ba498bd71c5b82f7a8d4c2cb2849872b0352575d87da85fd95bcf7c89222b", func := "scribe/scribelaw02.SumJoins", spec := "sumJoins", apart := false, narrowed := true }
def SumJoinsUptoSaid : Prop := sumJoinsUptoRow.holds Try.pinned (OpenSpec.upto sumJoinsSpec)

/-- 'scribelaw02.SumBoth', WHERE WHAT IT READS IS OF BULK AT MOST 1048576: true; the input reads as it did. -/
def sumBothUptoRow : OpenClaim := { program := "ytfenkmaanbgalaa", sum := "8f4ba498bd71c5b82f7a8d4c2cb2849872b0352575d87da85fd95bcf7c89222b", func := "scribe/scribelaw02.SumBoth", spec := "sumBoth", apart := false, narrowed := true }
def SumBothUptoSaid : Prop := sumBothUptoRow.holds Try.pinned (OpenSpec.upto sumBothSpec)

/-- 'scribelaw02.SumTrains', WHERE WHAT IT READS IS OF BULK AT MOST 1048576: true; the input reads as it did. -/
def sumTrainsUptoRow : OpenClaim := { program := "ytfenkmaanbgalaa", sum := "8f4ba498bd71c5b82f7a8d4c2cb2849872b0352575d87da85fd95bcf7c89222b", func := "scribe/scribelaw02.SumTrains", spec := "sumTrains", apart := false, narrowed := true }
def SumTrainsUptoSaid : Prop := sumTrainsUptoRow.holds Try.pinned (OpenSpec.upto sumTrainsSpec)

end Rows
end Go.Proofs.Ytfenkmaanbgalaa
