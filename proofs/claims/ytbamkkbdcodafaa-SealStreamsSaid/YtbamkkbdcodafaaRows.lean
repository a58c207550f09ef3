/-
  No cell of these rows narrows 'for every input' (looked for: loops, veiled, ifaces, maps, wideKeys, modest, calm, conditions, laid).
  DERIVED. THE GIVEN ROWS OF THIS SEAT. 9 by the template 'for every input the law returns true; each argument reads behind the call as it read before'; 0 by the template 'total and deterministic' (their statements: YtbamkkbdcodafaaTotals.lean).
  GIVEN WITH THE SEED: the statements are not yours to turn. If you find one false, say at which input.
  Laid BY PROGRAM, IN A SANDBOX (cutbox-rows.mjs): the forced cells as the released guide's own fill.sh prints them over the translation e26e025e031e4998… (all of the seat's roots in one cut). By AI agents, Wed Nov 11 2026. No macro, syntax, notation, axiom, sorry.
-/
import Derived.Test.YtbamkkbdcodafaaChecked
import GoSem.Claim
import GoSem.ClaimJoined
import GoSem.ClaimMapViews
import Derived.JoinedTies
import Derived.KernelRfl
namespace Go.Proofs.Ytbamkkbdcodafaa
/- THE CELL 'sum', in the pinned program and in every row, IS THE sha256 OF THE DUMP (.gsa) THAT YtbamkkbdcodafaaProg.lean LOADS. Nothing in Lean hashes anything: it is a label: what it is worth is what the hold of that sum in a sandbox is worth. -/
noncomputable def Try.pinned : Pinned := { name := "ytbamkkbdcodafaa", sum := "e26e025e031e4998957e0ed045edc9a94cef1e5c7415139d93b601d8922fcfec", checked := Try.checked }
namespace Rows
def none {H : Type} : Left H := { results := [], args := [] }

/-- 'haulagelaw02.SealMarks': WHATEVER THE INPUT: true; the input reads as it did. -/
def sealMarksSpec : ChangeSpec := { name := "sealMarks", fn := fun _ => fun
  | [d] => { results := [.lit (.bool true)], args := [d] }
  | _ => none }
def sealMarksRow : OpenClaim := { program := "ytbamkkbdcodafaa", sum := "e26e025e031e4998957e0ed045edc9a94cef1e5c7415139d93b601d8922fcfec", func := "haulage/haulagelaw02.SealMarks", spec := "sealMarks", apart := false }
def SealMarksSaid : Prop := sealMarksRow.holds Try.pinned (OpenSpec.ofChange sealMarksSpec)

/-- ITS FALSE NEIGHBOUR: 'it returns false'. Refute it at one input. -/
def sealMarksWrong : ChangeSpec := { name := "sealMarks", fn := fun _ => fun
  | [d] => { results := [.lit (.bool false)], args := [d] }
  | _ => none }
def SealMarksWrongFalsely : Prop := sealMarksRow.holds Try.pinned (OpenSpec.ofChange sealMarksWrong)

/-- 'haulagelaw02.SealTold': WHATEVER THE INPUT: true; the input reads as it did. -/
def sealToldSpec : ChangeSpec := { name := "sealTold", fn := fun _ => fun
  | [d1, d2, d3] => { results := [.lit (.bool true)], args := [d1, d2, d3] }
  | _ => none }
def sealToldRow : OpenClaim := { program := "ytbamkkbdcodafaa", sum := "e26e025e031e4998957e0ed045edc9a94cef1e5c7415139d93b601d8922fcfec", func := "haulage/haulagelaw02.SealTold", spec := "sealTold", apart := false }
def SealToldSaid : Prop := sealToldRow.holds Try.pinned (OpenSpec.ofChange sealToldSpec)

/-- ITS FALSE NEIGHBOUR: 'it returns false'. Refute it at one input. -/
def sealToldWrong : ChangeSpec := { name := "sealTold", fn := fun _ => fun
  | [d1, d2, d3] => { results := [.lit (.bool false)], args := [d1, d2, d3] }
  | _ => none }
def SealToldWrongFalsely : Prop := sealToldRow.holds Try.pinned (OpenSpec.ofChange sealToldWrong)

/-- 'haulagelaw02.SealAnswers': WHATEVER THE INPUT: true; the input reads as it did. -/
def sealAnswersSpec : ChangeSpec := { name := "sealAnswers", fn := fun _ => fun
  | [d1, d2] => { results := [.lit (.bool true)], args := [d1, d2] }
  | _ => none }
def sealAnswersRow : OpenClaim := { program := "ytbamkkbdcodafaa", sum := "e26e025e031e4998957e0ed045edc9a94cef1e5c7415139d93b601d8922fcfec", func := "haulage/haulagelaw02.SealAnswers", spec := "sealAnswers", apart := false }
def SealAnswersSaid : Prop := sealAnswersRow.holds Try.pinned (OpenSpec.ofChange sealAnswersSpec)

/-- ITS FALSE NEIGHBOUR: 'it returns false'. Refute it at one input. -/
def sealAnswersWrong : ChangeSpec := { name := "sealAnswers", fn := fun _ => fun
  | [d1, d2] => { results := [.lit (.bool false)], args := [d1, d2] }
  | _ => none }
def SealAnswersWrongFalsely : Prop := sealAnswersRow.holds Try.pinned (OpenSpec.ofChange sealAnswersWrong)

/-- 'haulagelaw02.SealStreams': WHATEVER THE INPUT: true; the input reads as it did. -/
def sealStreamsSpec : ChangeSpec := { name := "sealStreams", fn := fun _ => fun
  | [d] => { results := [.lit (.bool true)], args := [d] }
  | _ => none }
def sealStreamsRow : OpenClaim := { program := "ytbamkkbdcodafaa", sum := "e26e025e031e4998957e0ed045edc9a94cef1e5c7415139d93b601d8922fcfec", func := "haulage/haulagelaw02.SealStreams", spec := "sealStreams", apart := false }
def SealStreamsSaid : Prop := sealStreamsRow.holds Try.pinned (OpenSpec.ofChange sealStreamsSpec)

/-- ITS FALSE NEIGHBOUR: 'it returns false'. Refute it at one input. -/
def sealStreamsWrong : ChangeSpec := { name := "sealStreams", fn := fun _ => fun
  | [d] => { results := [.lit (.bool false)], args := [d] }
  | _ => none }
def SealStreamsWrongFalsely : Prop := sealStreamsRow.holds Try.pinned (OpenSpec.ofChange sealStreamsWrong)

/-- 'haulagelaw02.SealForged': WHATEVER THE INPUT: true; the input reads as it did. -/
def sealForgedSpec : ChangeSpec := { name := "sealForged", fn := fun _ => fun
  | [d1, d2, d3] => { results := [.lit (.bool true)], args := [d1, d2, d3] }
  | _ => none }
def sealForgedRow : OpenClaim := { program := "ytbamkkbdcodafaa", sum := "e26e025e031e4998957e0ed045edc9a94cef1e5c7415139d93b601d8922fcfec", func := "haulage/haulagelaw02.SealForged", spec := "sealForged", apart := false }
def SealForgedSaid : Prop := sealForgedRow.holds Try.pinned (OpenSpec.ofChange sealForgedSpec)

/-- ITS FALSE NEIGHBOUR: 'it returns false'. Refute it at one input. -/
def sealForgedWrong : ChangeSpec := { name := "sealForged", fn := fun _ => fun
  | [d1, d2, d3] => { results := [.lit (.bool false)], args := [d1, d2, d3] }
  | _ => none }
def SealForgedWrongFalsely : Prop := sealForgedRow.holds Try.pinned (OpenSpec.ofChange sealForgedWrong)

/-- 'haulagelaw02.SealTurned': WHATEVER THE INPUT: true; the input reads as it did. -/
def sealTurnedSpec : ChangeSpec := { name := "sealTurned", fn := fun _ => fun
  | [d1, d2, d3, d4, d5] => { results := [.lit (.bool true)], args := [d1, d2, d3, d4, d5] }
  | _ => none }
def sealTurnedRow : OpenClaim := { program := "ytbamkkbdcodafaa", sum := "e26e025e031e4998957e0ed045edc9a94cef1e5c7415139d93b601d8922fcfec", func := "haulage/haulagelaw02.SealTurned", spec := "sealTurned", apart := false }
def SealTurnedSaid : Prop := sealTurnedRow.holds Try.pinned (OpenSpec.ofChange sealTurnedSpec)

/-- ITS FALSE NEIGHBOUR: 'it returns false'. Refute it at one input. -/
def sealTurnedWrong : ChangeSpec := { name := "sealTurned", fn := fun _ => fun
  | [d1, d2, d3, d4, d5] => { results := [.lit (.bool false)], args := [d1, d2, d3, d4, d5] }
  | _ => none }
def SealTurnedWrongFalsely : Prop := sealTurnedRow.holds Try.pinned (OpenSpec.ofChange sealTurnedWrong)

/-- 'haulagelaw02.SealJoins': WHATEVER THE INPUT: true; the input reads as it did. -/
def sealJoinsSpec : ChangeSpec := { name := "sealJoins", fn := fun _ => fun
  | [d1, d2, d3, d4] => { results := [.lit (.bool true)], args := [d1, d2, d3, d4] }
  | _ => none }
def sealJoinsRow : OpenClaim := { program := "ytbamkkbdcodafaa", sum := "e26e025e031e4998957e0ed045edc9a94cef1e5c7415139d93b601d8922fcfec", func := "haulage/haulagelaw02.SealJoins", spec := "sealJoins", apart := false }
def SealJoinsSaid : Prop := sealJoinsRow.holds Try.pinned (OpenSpec.ofChange sealJoinsSpec)

/-- ITS FALSE NEIGHBOUR: 'it returns false'. Refute it at one input. -/
def sealJoinsWrong : ChangeSpec := { name := "sealJoins", fn := fun _ => fun
  | [d1, d2, d3, d4] => { results := [.lit (.bool false)], args := [d1, d2, d3, d4] }
  | _ => none }
def SealJoinsWrongFalsely : Prop := sealJoinsRow.holds Try.pinned (OpenSpec.ofChange sealJoinsWrong)

/-- 'haulagelaw02.SealBehind': WHATEVER THE INPUT: true; the input reads as it did. -/
def sealBehindSpec : ChangeSpec := { name := "sealBehind", fn := fun _ => fun
  | [d1, d2] => { results := [.lit (.bool true)], args := [d1, d2] }
  | _ => none }
def sealBehindRow : OpenClaim := { program := "ytbamkkbdcodafaa", sum := "e26e025e031e4998957e0ed045edc9a94cef1e5c7415139d93b601d8922fcfec", func := "haulage/haulagelaw02.SealBehind", spec := "sealBehind", apart := false }
def SealBehindSaid : Prop := sealBehindRow.holds Try.pinned (OpenSpec.ofChange sealBehindSpec)

/-- ITS FALSE NEIGHBOUR: 'it returns false'. Refute it at one input. -/
def sealBehindWrong : ChangeSpec := { name := "sealBehind", fn := fun _ => fun
  | [d1, d2] => { results := [.lit (.bool false)], args := [d1, d2] }
  | _ => none }
def SealBehindWrongFalsely : Prop := sealBehindRow.holds Try.pinned (OpenSpec.ofChange sealBehindWrong)

/-- 'haulagelaw02.SealKnown': WHATEVER THE INPUT: true; the input reads as it did. -/
def sealKnownSpec : ChangeSpec := { name := "sealKnown", fn := fun _ => fun
  | [] => { results := [.lit (.bool true)], args := [] }
  | _ => none }
def sealKnownRow : OpenClaim := { program := "ytbamkkbdcodafaa", sum := "e26e025e031e4998957e0ed045edc9a94cef1e5c7415139d93b601d8922fcfec", func := "haulage/haulagelaw02.SealKnown", spec := "sealKnown", apart := false }
def SealKnownSaid : Prop := sealKnownRow.holds Try.pinned (OpenSpec.ofChange sealKnownSpec)

/-- ITS FALSE NEIGHBOUR: 'it returns false'. Refute it at one input. -/
def sealKnownWrong : ChangeSpec := { name := "sealKnown", fn := fun _ => fun
  | [] => { results := [.lit (.bool false)], args := [] }
  | _ => none }
def SealKnownWrongFalsely : Prop := sealKnownRow.holds Try.pinned (OpenSpec.ofChange sealKnownWrong)

/- THE SECOND FORM. 'bulk': how many values and letters a reading holds, each counted each time it is reached (what is shared counts as often as it is met; a slice's spare places count too). A statement '..UptoSaid' is the law's where the arguments, and the package variables that the reading takes, are together of bulk at most 1048576: NARROWER than '..Said'. Prove '..Said' where nothing that the law and all that it calls make is longer than what came in: it says more and counts as full. Else prove '..UptoSaid'. A law counts once. -/
mutual
def uptoBulk {H : Type} : DataW H → Nat
  | .lit (.string bytes) => bytes.length + 1
  | .lit _ => 1
  | .nil => 1
  | .ptr d => uptoBulk d + 1
  | .slice elems spare => uptoBulkAll elems + uptoBulkAll spare + 1
  | .agg parts => uptoBulkAll parts + 1
  | .iface _ d => uptoBulk d + 1
  | .map entries => uptoBulkEntries entries + 1
  | .held _ => 1
def uptoBulkAll {H : Type} : List (DataW H) → Nat
  | [] => 0
  | d :: r => uptoBulk d + uptoBulkAll r
def uptoBulkEntries {H : Type} : List (Lit × DataW H) → Nat
  | [] => 0
  | x :: r => uptoBulkEntry x + uptoBulkEntries r
def uptoBulkEntry {H : Type} : Lit × DataW H → Nat
  | (.string bytes, d) => bytes.length + uptoBulk d + 1
  | (_, d) => uptoBulk d + 1
 end
def uptoSmall : (H : Type) → List (DataW H) → Bool := fun _ ds => decide (uptoBulkAll ds ≤ 1048576)
def OpenSpec.upto (s : _root_.Go.ChangeSpec) : _root_.Go.OpenSpec := { _root_.Go.OpenSpec.ofChange s with cond := some uptoSmall }

/-- 'haulagelaw02.SealMarks', WHERE WHAT IT READS IS OF BULK AT MOST 1048576: true; the input reads as it did. -/
def sealMarksUptoRow : OpenClaim := { program := "ytbamkkbdcodafaa", sum := "e26e025e031e4998957e0ed045edc9a94cef1e5c7415139d93b601d8922fcfec", func := "haulage/haulagelaw02.SealMarks", spec := "sealMarks", apart := false, narrowed := true }
def SealMarksUptoSaid : Prop := sealMarksUptoRow.holds Try.pinned (OpenSpec.upto sealMarksSpec)

/-- 'haulagelaw02.SealTold', WHERE WHAT IT READS IS OF BULK AT MOST 1048576: true; the input reads as it did. -/
def sealToldUptoRow : OpenClaim := { program := "ytbamkkbdcodafaa", sum := "e26e025e031e4998957e0ed045edc9a94cef1e5c7415139d93b601d8922fcfec", func := "haulage/haulagelaw02.SealTold", spec := "sealTold", apart := false, narrowed := true }
def SealToldUptoSaid : Prop := sealToldUptoRow.holds Try.pinned (OpenSpec.upto sealToldSpec)

/-- 'haulagelaw02.SealAnswers', WHERE WHAT IT READS IS OF BULK AT MOST 1048576: true; the input reads as it did. -/
def sealAnswersUptoRow : OpenClaim := { program := "ytbamkkbdcodafaa", sum := "e26e025e031e4998957e0ed045edc9a94cef1e5c7415139d93b601d8922fcfec", func := "haulage/haulagelaw02.SealAnswers", spec := "sealAnswers", apart := false, narrowed := true }
def SealAnswersUptoSaid : Prop := sealAnswersUptoRow.holds Try.pinned (OpenSpec.upto sealAnswersSpec)

/-- 'haulagelaw02.SealStreams', WHERE WHAT IT READS IS OF BULK AT MOST 1048576: true; the input reads as it did. -/
def sealStreamsUptoRow : OpenClaim := { program := "ytbamkkbdcodafaa", sum := "e26e025e031e4998957e0ed045edc9a94cef1e5c7415139d93b601d8922fcfec", func := "haulage/haulagelaw02.SealStreams", spec := "sealStreams", apart := false, narrowed := true }
def SealStreamsUptoSaid : Prop := sealStreamsUptoRow.holds Try.pinned (OpenSpec.upto sealStreamsSpec)

/-- 'haulagelaw02.SealForged', WHERE WHAT IT READS IS OF BULK AT MOST 1048576: true; the input reads as it did. -/
def sealForgedUptoRow : OpenClaim := { program := "ytbamkkbdcodafaa", sum := "e26e025e031e4998957e0ed045edc9a94cef1e5c7415139d93b601d8922fcfec", func := "haulage/haulagelaw02.SealForged", spec := "sealForged", apart := false, narrowed := true }
def SealForgedUptoSaid : Prop := sealForgedUptoRow.holds Try.pinned (OpenSpec.upto sealForgedSpec)

/-- 'haulagelaw02.SealTurned', WHERE WHAT IT READS IS OF BULK AT MOST 1048576: true; the input reads as it did. -/
def sealTurnedUptoRow : OpenClaim := { program := "ytbamkkbdcodafaa", sum := "e26e025e031e4998957e0ed045edc9a94cef1e5c7415139d93b601d8922fcfec", func := "haulage/haulagelaw02.SealTurned", spec := "sealTurned", apart := false, narrowed := true }
def SealTurnedUptoSaid : Prop := sealTurnedUptoRow.holds Try.pinned (OpenSpec.upto sealTurnedSpec)

/-- 'haulagelaw02.SealJoins', WHERE WHAT IT READS IS OF BULK AT MOST 1048576: true; the input reads as it did. -/
def sealJoinsUptoRow : OpenClaim := { program := "ytbamkkbdcodafaa", sum := "e26e025e031e4998957e0ed045edc9a94cef1e5c7415139d93b601d8922fcfec", func := "haulage/haulagelaw02.SealJoins", spec := "sealJoins", apart := false, narrowed := true }
def SealJoinsUptoSaid : Prop := sealJoinsUptoRow.holds Try.pinned (OpenSpec.upto sealJoinsSpec)

/-- 'haulagelaw02.SealBehind', WHERE WHAT IT READS IS OF BULK AT MOST 1048576: true; the input reads as it did. -/
def sealBehindUptoRow : OpenClaim := { program := "ytbamkkbdcodafaa", sum := "e26e025e031e4998957e0ed045edc9a94cef1e5c7415139d93b601d8922fcfec", func := "haulage/haulagelaw02.SealBehind", spec := "sealBehind", apart := false, narrowed := true }
def SealBehindUptoSaid : Prop := sealBehindUptoRow.holds Try.pinned (OpenSpec.upto sealBehindSpec)

/-- 'haulagelaw02.SealKnown', WHERE WHAT IT READS IS OF BULK AT MOST 1048576: true; the input reads as it did. -/
def sealKnownUptoRow : OpenClaim := { program := "ytbamkkbdcodafaa", sum := "e26e025e031e4998957e0ed045edc9a94cef1e5c7415139d93b601d8922fcfec", func := "haulage/haulagelaw02.SealKnown", spec := "sealKnown", apart := false, narrowed := true }
def SealKnownUptoSaid : Prop := sealKnownUptoRow.holds Try.pinned (OpenSpec.upto sealKnownSpec)

end Rows
end Go.Proofs.Ytbamkkbdcodafaa
