/-
  No cell of these rows narrows 'for every input' (looked for: loops, veiled, ifaces, maps, wideKeys, modest, calm, conditions, laid).
  DERIVED. THE GIVEN ROWS OF THIS SEAT. 9 by the template 'for every input the law returns true; each argument reads behind the call as it read before'; 0 by the template 'total and deterministic' (their statements: YtaneknfhilfalaaTotals.lean).
  GIVEN WITH THE SEED: the statements are not yours to turn. If you find one false, say at which input.
  Laid BY PROGRAM, IN A SANDBOX (cutbox-rows.mjs): the forced cells as the released guide's own fill.sh prints them over the translation f259e82f80dff74a… (all of the seat's roots in one cut). By AI agents, Wed Nov 11 2026. No macro, syntax, notation, axiom, sorry.
-/
import Derived.Test.YtaneknfhilfalaaChecked
import GoSem.Claim
import GoSem.ClaimJoined
import GoSem.ClaimMapViews
import Derived.JoinedTies
import Derived.KernelRfl
namespace Go.Proofs.Ytaneknfhilfalaa
/- THE CELL 'sum', in the pinned program and in every row, IS THE sha256 OF THE DUMP (.gsa) THAT YtaneknfhilfalaaProg.lean LOADS. Nothing in Lean hashes anything: it is a label: what it is worth is what the hold of that sum in a sandbox is worth. -/
noncomputable def Try.pinned : Pinned := { name := "ytaneknfhilfalaa", sum := "f259e82f80dff74a10c619c9698a1f3a932d05f01a18f614832a85bc4898e81b", checked := Try.checked }
namespace Rows
def none {H : Type} : Left H := { results := [], args := [] }

/-- 'haulagelaw07.DiceMixes': WHATEVER THE INPUT: true; the input reads as it did. -/
def diceMixesSpec : ChangeSpec := { name := "diceMixes", fn := fun _ => fun
  | [d1, d2] => { results := [.lit (.bool true)], args := [d1, d2] }
  | _ => none }
def diceMixesRow : OpenClaim := { program := "ytaneknfhilfalaa", sum := "f259e82f80dff74a10c619c9698a1f3a932d05f01a18f614832a85bc4898e81b", func := "haulage/haulagelaw07.DiceMixes", spec := "diceMixes", apart := false }
def DiceMixesSaid : Prop := diceMixesRow.holds Try.pinned (OpenSpec.ofChange diceMixesSpec)

/-- ITS FALSE NEIGHBOUR: 'it returns false'. Refute it at one input. -/
def diceMixesWrong : ChangeSpec := { name := "diceMixes", fn := fun _ => fun
  | [d1, d2] => { results := [.lit (.bool false)], args := [d1, d2] }
  | _ => none }
def DiceMixesWrongFalsely : Prop := diceMixesRow.holds Try.pinned (OpenSpec.ofChange diceMixesWrong)

/-- 'haulagelaw07.DiceOneToOne': WHATEVER THE INPUT: true; the input reads as it did. -/
def diceOneToOneSpec : ChangeSpec := { name := "diceOneToOne", fn := fun _ => fun
  | [d1, d2] => { results := [.lit (.bool true)], args := [d1, d2] }
  | _ => none }
def diceOneToOneRow : OpenClaim := { program := "ytaneknfhilfalaa", sum := "f259e82f80dff74a10c619c9698a1f3a932d05f01a18f614832a85bc4898e81b", func := "haulage/haulagelaw07.DiceOneToOne", spec := "diceOneToOne", apart := false }
def DiceOneToOneSaid : Prop := diceOneToOneRow.holds Try.pinned (OpenSpec.ofChange diceOneToOneSpec)

/-- ITS FALSE NEIGHBOUR: 'it returns false'. Refute it at one input. -/
def diceOneToOneWrong : ChangeSpec := { name := "diceOneToOne", fn := fun _ => fun
  | [d1, d2] => { results := [.lit (.bool false)], args := [d1, d2] }
  | _ => none }
def DiceOneToOneWrongFalsely : Prop := diceOneToOneRow.holds Try.pinned (OpenSpec.ofChange diceOneToOneWrong)

/-- 'haulagelaw07.DiceEven': WHATEVER THE INPUT: true; the input reads as it did. -/
def diceEvenSpec : ChangeSpec := { name := "diceEven", fn := fun _ => fun
  | [d1, d2] => { results := [.lit (.bool true)], args := [d1, d2] }
  | _ => none }
def diceEvenRow : OpenClaim := { program := "ytaneknfhilfalaa", sum := "f259e82f80dff74a10c619c9698a1f3a932d05f01a18f614832a85bc4898e81b", func := "haulage/haulagelaw07.DiceEven", spec := "diceEven", apart := false }
def DiceEvenSaid : Prop := diceEvenRow.holds Try.pinned (OpenSpec.ofChange diceEvenSpec)

/-- ITS FALSE NEIGHBOUR: 'it returns false'. Refute it at one input. -/
def diceEvenWrong : ChangeSpec := { name := "diceEven", fn := fun _ => fun
  | [d1, d2] => { results := [.lit (.bool false)], args := [d1, d2] }
  | _ => none }
def DiceEvenWrongFalsely : Prop := diceEvenRow.holds Try.pinned (OpenSpec.ofChange diceEvenWrong)

/-- 'haulagelaw07.DiceReals': WHATEVER THE INPUT: true; the input reads as it did. -/
def diceRealsSpec : ChangeSpec := { name := "diceReals", fn := fun _ => fun
  | [d] => { results := [.lit (.bool true)], args := [d] }
  | _ => none }
def diceRealsRow : OpenClaim := { program := "ytaneknfhilfalaa", sum := "f259e82f80dff74a10c619c9698a1f3a932d05f01a18f614832a85bc4898e81b", func := "haulage/haulagelaw07.DiceReals", spec := "diceReals", apart := false }
def DiceRealsSaid : Prop := diceRealsRow.holds Try.pinned (OpenSpec.ofChange diceRealsSpec)

/-- ITS FALSE NEIGHBOUR: 'it returns false'. Refute it at one input. -/
def diceRealsWrong : ChangeSpec := { name := "diceReals", fn := fun _ => fun
  | [d] => { results := [.lit (.bool false)], args := [d] }
  | _ => none }
def DiceRealsWrongFalsely : Prop := diceRealsRow.holds Try.pinned (OpenSpec.ofChange diceRealsWrong)

/-- 'haulagelaw07.DiceJumps': WHATEVER THE INPUT: true; the input reads as it did. -/
def diceJumpsSpec : ChangeSpec := { name := "diceJumps", fn := fun _ => fun
  | [d1, d2, d3, d4] => { results := [.lit (.bool true)], args := [d1, d2, d3, d4] }
  | _ => none }
def diceJumpsRow : OpenClaim := { program := "ytaneknfhilfalaa", sum := "f259e82f80dff74a10c619c9698a1f3a932d05f01a18f614832a85bc4898e81b", func := "haulage/haulagelaw07.DiceJumps", spec := "diceJumps", apart := false }
def DiceJumpsSaid : Prop := diceJumpsRow.holds Try.pinned (OpenSpec.ofChange diceJumpsSpec)

/-- ITS FALSE NEIGHBOUR: 'it returns false'. Refute it at one input. -/
def diceJumpsWrong : ChangeSpec := { name := "diceJumps", fn := fun _ => fun
  | [d1, d2, d3, d4] => { results := [.lit (.bool false)], args := [d1, d2, d3, d4] }
  | _ => none }
def DiceJumpsWrongFalsely : Prop := diceJumpsRow.holds Try.pinned (OpenSpec.ofChange diceJumpsWrong)

/-- 'haulagelaw07.DiceShuffles': WHATEVER THE INPUT: true; the input reads as it did. -/
def diceShufflesSpec : ChangeSpec := { name := "diceShuffles", fn := fun _ => fun
  | [d1, d2] => { results := [.lit (.bool true)], args := [d1, d2] }
  | _ => none }
def diceShufflesRow : OpenClaim := { program := "ytaneknfhilfalaa", sum := "f259e82f80dff74a10c619c9698a1f3a932d05f01a18f614832a85bc4898e81b", func := "haulage/haulagelaw07.DiceShuffles", spec := "diceShuffles", apart := false }
def DiceShufflesSaid : Prop := diceShufflesRow.holds Try.pinned (OpenSpec.ofChange diceShufflesSpec)

/-- ITS FALSE NEIGHBOUR: 'it returns false'. Refute it at one input. -/
def diceShufflesWrong : ChangeSpec := { name := "diceShuffles", fn := fun _ => fun
  | [d1, d2] => { results := [.lit (.bool false)], args := [d1, d2] }
  | _ => none }
def DiceShufflesWrongFalsely : Prop := diceShufflesRow.holds Try.pinned (OpenSpec.ofChange diceShufflesWrong)

/-- 'haulagelaw07.DicePicks': WHATEVER THE INPUT: true; the input reads as it did. -/
def dicePicksSpec : ChangeSpec := { name := "dicePicks", fn := fun _ => fun
  | [d1, d2, d3] => { results := [.lit (.bool true)], args := [d1, d2, d3] }
  | _ => none }
def dicePicksRow : OpenClaim := { program := "ytaneknfhilfalaa", sum := "f259e82f80dff74a10c619c9698a1f3a932d05f01a18f614832a85bc4898e81b", func := "haulage/haulagelaw07.DicePicks", spec := "dicePicks", inPlace := ["math.Float64frombits"], apart := false }
def DicePicksSaid : Prop := dicePicksRow.holds Try.pinned (OpenSpec.ofChange dicePicksSpec)

/-- ITS FALSE NEIGHBOUR: 'it returns false'. Refute it at one input. -/
def dicePicksWrong : ChangeSpec := { name := "dicePicks", fn := fun _ => fun
  | [d1, d2, d3] => { results := [.lit (.bool false)], args := [d1, d2, d3] }
  | _ => none }
def DicePicksWrongFalsely : Prop := dicePicksRow.holds Try.pinned (OpenSpec.ofChange dicePicksWrong)

/-- 'haulagelaw07.DiceScripts': WHATEVER THE INPUT: true; the input reads as it did. -/
def diceScriptsSpec : ChangeSpec := { name := "diceScripts", fn := fun _ => fun
  | [d1, d2] => { results := [.lit (.bool true)], args := [d1, d2] }
  | _ => none }
def diceScriptsRow : OpenClaim := { program := "ytaneknfhilfalaa", sum := "f259e82f80dff74a10c619c9698a1f3a932d05f01a18f614832a85bc4898e81b", func := "haulage/haulagelaw07.DiceScripts", spec := "diceScripts", inPlace := ["math.Float64bits", "math.Float64frombits"], apart := false }
def DiceScriptsSaid : Prop := diceScriptsRow.holds Try.pinned (OpenSpec.ofChange diceScriptsSpec)

/-- ITS FALSE NEIGHBOUR: 'it returns false'. Refute it at one input. -/
def diceScriptsWrong : ChangeSpec := { name := "diceScripts", fn := fun _ => fun
  | [d1, d2] => { results := [.lit (.bool false)], args := [d1, d2] }
  | _ => none }
def DiceScriptsWrongFalsely : Prop := diceScriptsRow.holds Try.pinned (OpenSpec.ofChange diceScriptsWrong)

/-- 'haulagelaw07.DiceOwn': WHATEVER THE INPUT: true; the input reads as it did. -/
def diceOwnSpec : ChangeSpec := { name := "diceOwn", fn := fun _ => fun
  | [d1, d2, d3] => { results := [.lit (.bool true)], args := [d1, d2, d3] }
  | _ => none }
def diceOwnRow : OpenClaim := { program := "ytaneknfhilfalaa", sum := "f259e82f80dff74a10c619c9698a1f3a932d05f01a18f614832a85bc4898e81b", func := "haulage/haulagelaw07.DiceOwn", spec := "diceOwn", inPlace := ["math.Float64frombits"], apart := false }
def DiceOwnSaid : Prop := diceOwnRow.holds Try.pinned (OpenSpec.ofChange diceOwnSpec)

/-- ITS FALSE NEIGHBOUR: 'it returns false'. Refute it at one input. -/
def diceOwnWrong : ChangeSpec := { name := "diceOwn", fn := fun _ => fun
  | [d1, d2, d3] => { results := [.lit (.bool false)], args := [d1, d2, d3] }
  | _ => none }
def DiceOwnWrongFalsely : Prop := diceOwnRow.holds Try.pinned (OpenSpec.ofChange diceOwnWrong)

/- THE SECOND FORM. 'bulk': how many values and letters a reading holds, each counted each time it is reached (what is shared counts as often as it is met; a slice's spare places count too). A statement '..UptoSaid' is the law's where the arguments, and the package variables that the reading takes, are together of bulk at most 1048576: NARROWER than '..Said'. Prove '..Said' where nothing that the law and all that it calls make is longer than what came in: it says more and counts as full. Else prove '..UptoSaid'. A law counts once. -/
mutual
def uptoBulk {H : Type} : DataW H → Nat
  | .lit (.string bytes) => bytes.length + 1
  | .lit _ => 1
  | .nil => 1
  | .ptr d => uptoBulk d + 1
  | .slice elems spare => uptoBulkAll elems + uptoBulkAll spare + 1
  | .agg parts => uptoBulkAll parts + 1
  | .iface _ d => uptoBulk d + 1
  | .map entries => uptoBulkEntries entries + 1
  | .held _ => 1
def uptoBulkAll {H : Type} : List (DataW H) → Nat
  | [] => 0
  | d :: r => uptoBulk d + uptoBulkAll r
def uptoBulkEntries {H : Type} : List (Lit × DataW H) → Nat
  | [] => 0
  | x :: r => uptoBulkEntry x + uptoBulkEntries r
def uptoBulkEntry {H : Type} : Lit × DataW H → Nat
  | (.string bytes, d) => bytes.length + uptoBulk d + 1
  | (_, d) => uptoBulk d + 1
 end
def uptoSmall : (H : Type) → List (DataW H) → Bool := fun _ ds => decide (uptoBulkAll ds ≤ 1048576)
def OpenSpec.upto (s : _root_.Go.ChangeSpec) : _root_.Go.OpenSpec := { _root_.Go.OpenSpec.ofChange s with cond := some uptoSmall }

/-- 'haulagelaw07.DiceMixes', WHERE WHAT IT READS IS OF BULK AT MOST 1048576: true; the input reads as it did. -/
def diceMixesUptoRow : OpenClaim := { program := "ytaneknfhilfalaa", sum := "f259e82f80dff74a10c619c9698a1f3a932d05f01a18f614832a85bc4898e81b", func := "haulage/haulagelaw07.DiceMixes", spec := "diceMixes", apart := false, narrowed := true }
def DiceMixesUptoSaid : Prop := diceMixesUptoRow.holds Try.pinned (OpenSpec.upto diceMixesSpec)

/-- 'haulagelaw07.DiceOneToOne', WHERE WHAT IT READS IS OF BULK AT MOST 1048576: true; the input reads as it did. -/
def diceOneToOneUptoRow : OpenClaim := { program := "ytaneknfhilfalaa", sum := "f259e82f80dff74a10c619c9698a1f3a932d05f01a18f614832a85bc4898e81b", func := "haulage/haulagelaw07.DiceOneToOne", spec := "diceOneToOne", apart := false, narrowed := true }
def DiceOneToOneUptoSaid : Prop := diceOneToOneUptoRow.holds Try.pinned (OpenSpec.upto diceOneToOneSpec)

/-- 'haulagelaw07.DiceEven', WHERE WHAT IT READS IS OF BULK AT MOST 1048576: true; the input reads as it did. -/
def diceEvenUptoRow : OpenClaim := { program := "ytaneknfhilfalaa", sum := "f259e82f80dff74a10c619c9698a1f3a932d05f01a18f614832a85bc4898e81b", func := "haulage/haulagelaw07.DiceEven", spec := "diceEven", apart := false, narrowed := true }
def DiceEvenUptoSaid : Prop := diceEvenUptoRow.holds Try.pinned (OpenSpec.upto diceEvenSpec)

/-- 'haulagelaw07.DiceReals', WHERE WHAT IT READS IS OF BULK AT MOST 1048576: true; the input reads as it did. -/
def diceRealsUptoRow : OpenClaim := { program := "ytaneknfhilfalaa", sum := "f259e82f80dff74a10c619c9698a1f3a932d05f01a18f614832a85bc4898e81b", func := "haulage/haulagelaw07.DiceReals", spec := "diceReals", apart := false, narrowed := true }
def DiceRealsUptoSaid : Prop := diceRealsUptoRow.holds Try.pinned (OpenSpec.upto diceRealsSpec)

/-- 'haulagelaw07.DiceJumps', WHERE WHAT IT READS IS OF BULK AT MOST 1048576: true; the input reads as it did. -/
def diceJumpsUptoRow : OpenClaim := { program := "ytaneknfhilfalaa", sum := "f259e82f80dff74a10c619c9698a1f3a932d05f01a18f614832a85bc4898e81b", func := "haulage/haulagelaw07.DiceJumps", spec := "diceJumps", apart := false, narrowed := true }
def DiceJumpsUptoSaid : Prop := diceJumpsUptoRow.holds Try.pinned (OpenSpec.upto diceJumpsSpec)

/-- 'haulagelaw07.DiceShuffles', WHERE WHAT IT READS IS OF BULK AT MOST 1048576: true; the input reads as it did. -/
def diceShufflesUptoRow : OpenClaim := { program := "ytaneknfhilfalaa", sum := "f259e82f80dff74a10c619c9698a1f3a932d05f01a18f614832a85bc4898e81b", func := "haulage/haulagelaw07.DiceShuffles", spec := "diceShuffles", apart := false, narrowed := true }
def DiceShufflesUptoSaid : Prop := diceShufflesUptoRow.holds Try.pinned (OpenSpec.upto diceShufflesSpec)

/-- 'haulagelaw07.DicePicks', WHERE WHAT IT READS IS OF BULK AT MOST 1048576: true; the input reads as it did. -/
def dicePicksUptoRow : OpenClaim := { program := "ytaneknfhilfalaa", sum := "f259e82f80dff74a10c619c9698a1f3a932d05f01a18f614832a85bc4898e81b", func := "haulage/haulagelaw07.DicePicks", spec := "dicePicks", inPlace := ["math.Float64frombits"], apart := false, narrowed := true }
def DicePicksUptoSaid : Prop := dicePicksUptoRow.holds Try.pinned (OpenSpec.upto dicePicksSpec)

/-- 'haulagelaw07.DiceScripts', WHERE WHAT IT READS IS OF BULK AT MOST 1048576: true; the input reads as it did. -/
def diceScriptsUptoRow : OpenClaim := { program := "ytaneknfhilfalaa", sum := "f259e82f80dff74a10c619c9698a1f3a932d05f01a18f614832a85bc4898e81b", func := "haulage/haulagelaw07.DiceScripts", spec := "diceScripts", inPlace := ["math.Float64bits", "math.Float64frombits"], apart := false, narrowed := true }
def DiceScriptsUptoSaid : Prop := diceScriptsUptoRow.holds Try.pinned (OpenSpec.upto diceScriptsSpec)

/-- 'haulagelaw07.DiceOwn', WHERE WHAT IT READS IS OF BULK AT MOST 1048576: true; the input reads as it did. -/
def diceOwnUptoRow : OpenClaim := { program := "ytaneknfhilfalaa", sum := "f259e82f80dff74a10c619c9698a1f3a932d05f01a18f614832a85bc4898e81b", func := "haulage/haulagelaw07.DiceOwn", spec := "diceOwn", inPlace := ["math.Float64frombits"], apart := false, narrowed := true }
def DiceOwnUptoSaid : Prop := diceOwnUptoRow.holds Try.pinned (OpenSpec.upto diceOwnSpec)

end Rows
end Go.Proofs.Ytaneknfhilfalaa
