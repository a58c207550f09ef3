/-
  No cell of these rows narrows 'for every input' (looked for: loops, veiled, ifaces, maps, wideKeys, modest, calm, conditions, laid).
  DERIVED. THE GIVEN ROWS OF THIS SEAT. 6 by the template 'for every input the law returns true; each argument reads behind the call as it read before'; 0 by the template 'total and deterministic' (their statements: YtjgdeijodjihlaaTotals.lean).
  GIVEN WITH THE SEED: the statements are not yours to turn. If you find one false, say at which input.
  Laid BY PROGRAM, IN A SANDBOX (cutbox-rows.mjs): the forced cells as the released guide's own fill.sh prints them over the translation d39f686ca8c4e1eb… (all of the seat's roots in one cut). By AI agents, Wed Nov 11 2026. No macro, syntax, notation, axiom, sorry.
-/
import Derived.Test.YtjgdeijodjihlaaChecked
import GoSem.Claim
import GoSem.ClaimJoined
import GoSem.ClaimMapViews
import Derived.JoinedTies
import Derived.KernelRfl
namespace Go.Proofs.Ytjgdeijodjihlaa
/- THE CELL 'sum', in the pinned program and in every row, IS THE sha256 OF THE DUMP (.gsa) THAT YtjgdeijodjihlaaProg.lean LOADS. Nothing in Lean hashes anything: it is a label: what it is worth is what the hold of that sum in a sandbox is worth. -/
noncomputable def Try.pinned : Pinned := { name := "ytjgdeijodjihlaa", sum := "d39f686ca8c4e1ebb911d1074598cf517eab2b4803a489e33b77ffed39f35a15", checked := Try.checked }
namespace Rows
def none {H : Type} : Left H := { results := [], args := [] }

/-- 'haulagelaw09.LoadOwn': WHATEVER THE INPUT: true; the input reads as it did. -/
def loadOwnSpec : ChangeSpec := { name := "loadOwn", fn := fun _ => fun
  | [d1, d2, d3] => { results := [.lit (.bool true)], args := [d1, d2, d3] }
  | _ => none }
def loadOwnRow : OpenClaim := { program := "ytjgdeijodjihlaa", sum := "d39f686ca8c4e1ebb911d1074598cf517eab2b4803a489e33b77ffed39f35a15", func := "haulage/haulagelaw09.LoadOwn", spec := "loadOwn", inPlace := ["math.Float64bits", "math.Float64frombits"], apart := false }
def LoadOwnSaid : Prop := loadOwnRow.holds Try.pinned (OpenSpec.ofChange loadOwnSpec)

/-- ITS FALSE NEIGHBOUR: 'it returns false'. Refute it at one input. -/
def loadOwnWrong : ChangeSpec := { name := "loadOwn", fn := fun _ => fun
  | [d1, d2, d3] => { results := [.lit (.bool false)], args := [d1, d2, d3] }
  | _ => none }
def LoadOwnWrongFalsely : Prop := loadOwnRow.holds Try.pinned (OpenSpec.ofChange loadOwnWrong)

/-- 'haulagelaw09.LoadApart': WHATEVER THE INPUT: true; the input reads as it did. -/
def loadApartSpec : ChangeSpec := { name := "loadApart", fn := fun _ => fun
  | [d1, d2, d3, d4] => { results := [.lit (.bool true)], args := [d1, d2, d3, d4] }
  | _ => none }
def loadApartRow : OpenClaim := { program := "ytjgdeijodjihlaa", sum := "d39f686ca8c4e1ebb911d1074598cf517eab2b4803a489e33b77ffed39f35a15", func := "haulage/haulagelaw09.LoadApart", spec := "loadApart", inPlace := ["math.Float64bits", "math.Float64frombits"], apart := false }
def LoadApartSaid : Prop := loadApartRow.holds Try.pinned (OpenSpec.ofChange loadApartSpec)

/-- ITS FALSE NEIGHBOUR: 'it returns false'. Refute it at one input. -/
def loadApartWrong : ChangeSpec := { name := "loadApart", fn := fun _ => fun
  | [d1, d2, d3, d4] => { results := [.lit (.bool false)], args := [d1, d2, d3, d4] }
  | _ => none }
def LoadApartWrongFalsely : Prop := loadApartRow.holds Try.pinned (OpenSpec.ofChange loadApartWrong)

/-- 'haulagelaw09.LoadRefuses': WHATEVER THE INPUT: true; the input reads as it did. -/
def loadRefusesSpec : ChangeSpec := { name := "loadRefuses", fn := fun _ => fun
  | [d1, d2, d3, d4] => { results := [.lit (.bool true)], args := [d1, d2, d3, d4] }
  | _ => none }
def loadRefusesRow : OpenClaim := { program := "ytjgdeijodjihlaa", sum := "d39f686ca8c4e1ebb911d1074598cf517eab2b4803a489e33b77ffed39f35a15", func := "haulage/haulagelaw09.LoadRefuses", spec := "loadRefuses", inPlace := ["math.Float64bits", "math.Float64frombits"], apart := false }
def LoadRefusesSaid : Prop := loadRefusesRow.holds Try.pinned (OpenSpec.ofChange loadRefusesSpec)

/-- ITS FALSE NEIGHBOUR: 'it returns false'. Refute it at one input. -/
def loadRefusesWrong : ChangeSpec := { name := "loadRefuses", fn := fun _ => fun
  | [d1, d2, d3, d4] => { results := [.lit (.bool false)], args := [d1, d2, d3, d4] }
  | _ => none }
def LoadRefusesWrongFalsely : Prop := loadRefusesRow.holds Try.pinned (OpenSpec.ofChange loadRefusesWrong)

/-- 'haulagelaw09.LoadPlays': WHATEVER THE INPUT: true; the input reads as it did. -/
def loadPlaysSpec : ChangeSpec := { name := "loadPlays", fn := fun _ => fun
  | [d1, d2, d3, d4, d5] => { results := [.lit (.bool true)], args := [d1, d2, d3, d4, d5] }
  | _ => none }
def loadPlaysRow : OpenClaim := { program := "ytjgdeijodjihlaa", sum := "d39f686ca8c4e1ebb911d1074598cf517eab2b4803a489e33b77ffed39f35a15", func := "haulage/haulagelaw09.LoadPlays", spec := "loadPlays", inPlace := ["math.Float64frombits", "math.Float64bits", "math.sqrt"], apart := false }
def LoadPlaysSaid : Prop := loadPlaysRow.holds Try.pinned (OpenSpec.ofChange loadPlaysSpec)

/-- ITS FALSE NEIGHBOUR: 'it returns false'. Refute it at one input. -/
def loadPlaysWrong : ChangeSpec := { name := "loadPlays", fn := fun _ => fun
  | [d1, d2, d3, d4, d5] => { results := [.lit (.bool false)], args := [d1, d2, d3, d4, d5] }
  | _ => none }
def LoadPlaysWrongFalsely : Prop := loadPlaysRow.holds Try.pinned (OpenSpec.ofChange loadPlaysWrong)

/-- 'haulagelaw09.LoadHalves': WHATEVER THE INPUT: true; the input reads as it did. -/
def loadHalvesSpec : ChangeSpec := { name := "loadHalves", fn := fun _ => fun
  | [d1, d2, d3, d4, d5] => { results := [.lit (.bool true)], args := [d1, d2, d3, d4, d5] }
  | _ => none }
def loadHalvesRow : OpenClaim := { program := "ytjgdeijodjihlaa", sum := "d39f686ca8c4e1ebb911d1074598cf517eab2b4803a489e33b77ffed39f35a15", func := "haulage/haulagelaw09.LoadHalves", spec := "loadHalves", inPlace := ["math.Float64bits", "math.Float64frombits", "math.sqrt"], apart := false }
def LoadHalvesSaid : Prop := loadHalvesRow.holds Try.pinned (OpenSpec.ofChange loadHalvesSpec)

/-- ITS FALSE NEIGHBOUR: 'it returns false'. Refute it at one input. -/
def loadHalvesWrong : ChangeSpec := { name := "loadHalves", fn := fun _ => fun
  | [d1, d2, d3, d4, d5] => { results := [.lit (.bool false)], args := [d1, d2, d3, d4, d5] }
  | _ => none }
def LoadHalvesWrongFalsely : Prop := loadHalvesRow.holds Try.pinned (OpenSpec.ofChange loadHalvesWrong)

/-- 'haulagelaw09.LoadBounds': WHATEVER THE INPUT: true; the input reads as it did. -/
def loadBoundsSpec : ChangeSpec := { name := "loadBounds", fn := fun _ => fun
  | [d1, d2, d3] => { results := [.lit (.bool true)], args := [d1, d2, d3] }
  | _ => none }
def loadBoundsRow : OpenClaim := { program := "ytjgdeijodjihlaa", sum := "d39f686ca8c4e1ebb911d1074598cf517eab2b4803a489e33b77ffed39f35a15", func := "haulage/haulagelaw09.LoadBounds", spec := "loadBounds", inPlace := ["math.Float64bits", "math.Float64frombits", "math.sqrt"], apart := false }
def LoadBoundsSaid : Prop := loadBoundsRow.holds Try.pinned (OpenSpec.ofChange loadBoundsSpec)

/-- ITS FALSE NEIGHBOUR: 'it returns false'. Refute it at one input. -/
def loadBoundsWrong : ChangeSpec := { name := "loadBounds", fn := fun _ => fun
  | [d1, d2, d3] => { results := [.lit (.bool false)], args := [d1, d2, d3] }
  | _ => none }
def LoadBoundsWrongFalsely : Prop := loadBoundsRow.holds Try.pinned (OpenSpec.ofChange loadBoundsWrong)

/- THE SECOND FORM. 'bulk': how many values and letters a reading holds, each counted each time it is reached (what is shared counts as often as it is met; a slice's spare places count too). A statement '..UptoSaid' is the law's where the arguments, and the package variables that the reading takes, are together of bulk at most 1048576: NARROWER than '..Said'. Prove '..Said' where nothing that the law and all that it calls make is longer than what came in: it says more and counts as full. Else prove '..UptoSaid'. A law counts once. -/
mutual
def uptoBulk {H : Type} : DataW H → Nat
  | .lit (.string bytes) => bytes.length + 1
  | .lit _ => 1
  | .nil => 1
  | .ptr d => uptoBulk d + 1
  | .slice elems spare => uptoBulkAll elems + uptoBulkAll spare + 1
  | .agg parts => uptoBulkAll parts + 1
  | .iface _ d => uptoBulk d + 1
  | .map entries => uptoBulkEntries entries + 1
  | .held _ => 1
def uptoBulkAll {H : Type} : List (DataW H) → Nat
  | [] => 0
  | d :: r => uptoBulk d + uptoBulkAll r
def uptoBulkEntries {H : Type} : List (Lit × DataW H) → Nat
  | [] => 0
  | x :: r => uptoBulkEntry x + uptoBulkEntries r
def uptoBulkEntry {H : Type} : Lit × DataW H → Nat
  | (.string bytes, d) => bytes.length + uptoBulk d + 1
  | (_, d) => uptoBulk d + 1
 end
def uptoSmall : (H : Type) → List (DataW H) → Bool := fun _ ds => decide (uptoBulkAll ds ≤ 1048576)
def OpenSpec.upto (s : _root_.Go.ChangeSpec) : _root_.Go.OpenSpec := { _root_.Go.OpenSpec.ofChange s with cond := some uptoSmall }

/-- 'haulagelaw09.LoadOwn', WHERE WHAT IT READS IS OF BULK AT MOST 1048576: true; the input reads as it did. -/
def loadOwnUptoRow : OpenClaim := { program := "ytjgdeijodjihlaa", sum := "d39f686ca8c4e1ebb911d1074598cf517eab2b4803a489e33b77ffed39f35a15", func := "haulage/haulagelaw09.LoadOwn", spec := "loadOwn", inPlace := ["math.Float64bits", "math.Float64frombits"], apart := false, narrowed := true }
def LoadOwnUptoSaid : Prop := loadOwnUptoRow.holds Try.pinned (OpenSpec.upto loadOwnSpec)

/-- 'haulagelaw09.LoadApart', WHERE WHAT IT READS IS OF BULK AT MOST 1048576: true; the input reads as it did. -/
def loadApartUptoRow : OpenClaim := { program := "ytjgdeijodjihlaa", sum := "d39f686ca8c4e1ebb911d1074598cf517eab2b4803a489e33b77ffed39f35a15", func := "haulage/haulagelaw09.LoadApart", spec := "loadApart", inPlace := ["math.Float64bits", "math.Float64frombits"], apart := false, narrowed := true }
def LoadApartUptoSaid : Prop := loadApartUptoRow.holds Try.pinned (OpenSpec.upto loadApartSpec)

/-- 'haulagelaw09.LoadRefuses', WHERE WHAT IT READS IS OF BULK AT MOST 1048576: true; the input reads as it did. -/
def loadRefusesUptoRow : OpenClaim := { program := "ytjgdeijodjihlaa", sum := "d39f686ca8c4e1ebb911d1074598cf517eab2b4803a489e33b77ffed39f35a15", func := "haulage/haulagelaw09.LoadRefuses", spec := "loadRefuses", inPlace := ["math.Float64bits", "math.Float64frombits"], apart := false, narrowed := true }
def LoadRefusesUptoSaid : Prop := loadRefusesUptoRow.holds Try.pinned (OpenSpec.upto loadRefusesSpec)

/-- 'haulagelaw09.LoadPlays', WHERE WHAT IT READS IS OF BULK AT MOST 1048576: true; the input reads as it did. -/
def loadPlaysUptoRow : OpenClaim := { program := "ytjgdeijodjihlaa", sum := "d39f686ca8c4e1ebb911d1074598cf517eab2b4803a489e33b77ffed39f35a15", func := "haulage/haulagelaw09.LoadPlays", spec := "loadPlays", inPlace := ["math.Float64frombits", "math.Float64bits", "math.sqrt"], apart := false, narrowed := true }
def LoadPlaysUptoSaid : Prop := loadPlaysUptoRow.holds Try.pinned (OpenSpec.upto loadPlaysSpec)

/-- 'haulagelaw09.LoadHalves', WHERE WHAT IT READS IS OF BULK AT MOST 1048576: true; the input reads as it did. -/
def loadHalvesUptoRow : OpenClaim := { program := "ytjgdeijodjihlaa", sum := "d39f686ca8c4e1ebb911d1074598cf517eab2b4803a489e33b77ffed39f35a15", func := "haulage/haulagelaw09.LoadHalves", spec := "loadHalves", inPlace := ["math.Float64bits", "math.Float64frombits", "math.sqrt"], apart := false, narrowed := true }
def LoadHalvesUptoSaid : Prop := loadHalvesUptoRow.holds Try.pinned (OpenSpec.upto loadHalvesSpec)

/-- 'haulagelaw09.LoadBounds', WHERE WHAT IT READS IS OF BULK AT MOST 1048576: true; the input reads as it did. -/
def loadBoundsUptoRow : OpenClaim := { program := "ytjgdeijodjihlaa", sum := "d39f686ca8c4e1ebb911d1074598cf517eab2b4803a489e33b77ffed39f35a15", func := "haulage/haulagelaw09.LoadBounds", spec := "loadBounds", inPlace := ["math.Float64bits", "math.Float64frombits", "math.sqrt"], apart := false, narrowed := true }
def LoadBoundsUptoSaid : Prop := loadBoundsUptoRow.holds Try.pinned (OpenSpec.upto loadBoundsSpec)

end Rows
end Go.Proofs.Ytjgdeijodjihlaa
