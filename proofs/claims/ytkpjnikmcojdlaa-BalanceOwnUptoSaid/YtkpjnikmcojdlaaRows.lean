/-
  No cell of these rows narrows 'for every input' (looked for: loops, veiled, ifaces, maps, wideKeys, modest, calm, conditions, laid).
  DERIVED. THE GIVEN ROWS OF THIS SEAT. 8 by the template 'for every input the law returns true; each argument reads behind the call as it read before'; 0 by the template 'total and deterministic' (their statements: YtkpjnikmcojdlaaTotals.lean).
  GIVEN WITH THE SEED: the statements are not yours to turn. If you find one false, say at which input.
  Laid BY PROGRAM, IN A SANDBOX (cutbox-rows.mjs): the forced cells as the released guide's own fill.sh prints them over the translation aae3a8b42d4e595e… (all of the seat's roots in one cut). By AI agents, Wed Nov 11 2026. No macro, syntax, notation, axiom, sorry.
-/
import Derived.Test.YtkpjnikmcojdlaaChecked
import GoSem.Claim
import GoSem.ClaimJoined
import GoSem.ClaimMapViews
import Derived.JoinedTies
import Derived.KernelRfl
namespace Go.Proofs.Ytkpjnikmcojdlaa
/- THE CELL 'sum', in the pinned program and in every row, IS THE sha256 OF THE DUMP (.gsa) THAT YtkpjnikmcojdlaaProg.lean LOADS. Nothing in Lean hashes anything: it is a label: what it is worth is what the hold of that sum in a sandbox is worth. -/
noncomputable def Try.pinned : Pinned := { name := "ytkpjnikmcojdlaa", sum := "aae3a8b42d4e595ef9ce18c3431641c35341c29e2d64d69d8b023abbefb7136e", checked := Try.checked }
namespace Rows
def none {H : Type} : Left H := { results := [], args := [] }

/-- 'haulagelaw25.BalanceApplies': WHATEVER THE INPUT: true; the input reads as it did. -/
def balanceAppliesSpec : ChangeSpec := { name := "balanceApplies", fn := fun _ => fun
  | [d1, d2, d3] => { results := [.lit (.bool true)], args := [d1, d2, d3] }
  | _ => none }
def balanceAppliesRow : OpenClaim := { program := "ytkpjnikmcojdlaa", sum := "aae3a8b42d4e595ef9ce18c3431641c35341c29e2d64d69d8b023abbefb7136e", func := "haulage/haulagelaw25.BalanceApplies", spec := "balanceApplies", unfollowed := true, recurses := true, apart := false }
def BalanceAppliesSaid : Prop := balanceAppliesRow.holds Try.pinned (OpenSpec.ofChange balanceAppliesSpec)

/-- ITS FALSE NEIGHBOUR: 'it returns false'. Refute it at one input. -/
def balanceAppliesWrong : ChangeSpec := { name := "balanceApplies", fn := fun _ => fun
  | [d1, d2, d3] => { results := [.lit (.bool false)], args := [d1, d2, d3] }
  | _ => none }
def BalanceAppliesWrongFalsely : Prop := balanceAppliesRow.holds Try.pinned (OpenSpec.ofChange balanceAppliesWrong)

/-- 'haulagelaw25.BalanceSums': WHATEVER THE INPUT: true; the input reads as it did. -/
def balanceSumsSpec : ChangeSpec := { name := "balanceSums", fn := fun _ => fun
  | [d] => { results := [.lit (.bool true)], args := [d] }
  | _ => none }
def balanceSumsRow : OpenClaim := { program := "ytkpjnikmcojdlaa", sum := "aae3a8b42d4e595ef9ce18c3431641c35341c29e2d64d69d8b023abbefb7136e", func := "haulage/haulagelaw25.BalanceSums", spec := "balanceSums", inPlace := ["math.Float64frombits", "math.Float64bits"], unfollowed := true, recurses := true, apart := false }
def BalanceSumsSaid : Prop := balanceSumsRow.holds Try.pinned (OpenSpec.ofChange balanceSumsSpec)

/-- ITS FALSE NEIGHBOUR: 'it returns false'. Refute it at one input. -/
def balanceSumsWrong : ChangeSpec := { name := "balanceSums", fn := fun _ => fun
  | [d] => { results := [.lit (.bool false)], args := [d] }
  | _ => none }
def BalanceSumsWrongFalsely : Prop := balanceSumsRow.holds Try.pinned (OpenSpec.ofChange balanceSumsWrong)

/-- 'haulagelaw25.BalancePlans': WHATEVER THE INPUT: true; the input reads as it did. -/
def balancePlansSpec : ChangeSpec := { name := "balancePlans", fn := fun _ => fun
  | [d1, d2] => { results := [.lit (.bool true)], args := [d1, d2] }
  | _ => none }
def balancePlansRow : OpenClaim := { program := "ytkpjnikmcojdlaa", sum := "aae3a8b42d4e595ef9ce18c3431641c35341c29e2d64d69d8b023abbefb7136e", func := "haulage/haulagelaw25.BalancePlans", spec := "balancePlans", inPlace := ["math.Float64frombits", "math.Float64bits"], unfollowed := true, recurses := true, apart := false }
def BalancePlansSaid : Prop := balancePlansRow.holds Try.pinned (OpenSpec.ofChange balancePlansSpec)

/-- ITS FALSE NEIGHBOUR: 'it returns false'. Refute it at one input. -/
def balancePlansWrong : ChangeSpec := { name := "balancePlans", fn := fun _ => fun
  | [d1, d2] => { results := [.lit (.bool false)], args := [d1, d2] }
  | _ => none }
def BalancePlansWrongFalsely : Prop := balancePlansRow.holds Try.pinned (OpenSpec.ofChange balancePlansWrong)

/-- 'haulagelaw25.BalanceTwice': WHATEVER THE INPUT: true; the input reads as it did. -/
def balanceTwiceSpec : ChangeSpec := { name := "balanceTwice", fn := fun _ => fun
  | [d1, d2, d3] => { results := [.lit (.bool true)], args := [d1, d2, d3] }
  | _ => none }
def balanceTwiceRow : OpenClaim := { program := "ytkpjnikmcojdlaa", sum := "aae3a8b42d4e595ef9ce18c3431641c35341c29e2d64d69d8b023abbefb7136e", func := "haulage/haulagelaw25.BalanceTwice", spec := "balanceTwice", inPlace := ["math.Float64bits"], unfollowed := true, recurses := true, apart := false }
def BalanceTwiceSaid : Prop := balanceTwiceRow.holds Try.pinned (OpenSpec.ofChange balanceTwiceSpec)

/-- ITS FALSE NEIGHBOUR: 'it returns false'. Refute it at one input. -/
def balanceTwiceWrong : ChangeSpec := { name := "balanceTwice", fn := fun _ => fun
  | [d1, d2, d3] => { results := [.lit (.bool false)], args := [d1, d2, d3] }
  | _ => none }
def BalanceTwiceWrongFalsely : Prop := balanceTwiceRow.holds Try.pinned (OpenSpec.ofChange balanceTwiceWrong)

/-- 'haulagelaw25.BalanceBetter': WHATEVER THE INPUT: true; the input reads as it did. -/
def balanceBetterSpec : ChangeSpec := { name := "balanceBetter", fn := fun _ => fun
  | [d1, d2] => { results := [.lit (.bool true)], args := [d1, d2] }
  | _ => none }
def balanceBetterRow : OpenClaim := { program := "ytkpjnikmcojdlaa", sum := "aae3a8b42d4e595ef9ce18c3431641c35341c29e2d64d69d8b023abbefb7136e", func := "haulage/haulagelaw25.BalanceBetter", spec := "balanceBetter", inPlace := ["math.Float64bits", "math.Float64frombits"], unfollowed := true, recurses := true, apart := false }
def BalanceBetterSaid : Prop := balanceBetterRow.holds Try.pinned (OpenSpec.ofChange balanceBetterSpec)

/-- ITS FALSE NEIGHBOUR: 'it returns false'. Refute it at one input. -/
def balanceBetterWrong : ChangeSpec := { name := "balanceBetter", fn := fun _ => fun
  | [d1, d2] => { results := [.lit (.bool false)], args := [d1, d2] }
  | _ => none }
def BalanceBetterWrongFalsely : Prop := balanceBetterRow.holds Try.pinned (OpenSpec.ofChange balanceBetterWrong)

/-- 'haulagelaw25.BalanceEnds': WHATEVER THE INPUT: true; the input reads as it did. -/
def balanceEndsSpec : ChangeSpec := { name := "balanceEnds", fn := fun _ => fun
  | [d1, d2] => { results := [.lit (.bool true)], args := [d1, d2] }
  | _ => none }
def balanceEndsRow : OpenClaim := { program := "ytkpjnikmcojdlaa", sum := "aae3a8b42d4e595ef9ce18c3431641c35341c29e2d64d69d8b023abbefb7136e", func := "haulage/haulagelaw25.BalanceEnds", spec := "balanceEnds", inPlace := ["math.Float64bits", "math.Float64frombits"], unfollowed := true, recurses := true, apart := false }
def BalanceEndsSaid : Prop := balanceEndsRow.holds Try.pinned (OpenSpec.ofChange balanceEndsSpec)

/-- ITS FALSE NEIGHBOUR: 'it returns false'. Refute it at one input. -/
def balanceEndsWrong : ChangeSpec := { name := "balanceEnds", fn := fun _ => fun
  | [d1, d2] => { results := [.lit (.bool false)], args := [d1, d2] }
  | _ => none }
def BalanceEndsWrongFalsely : Prop := balanceEndsRow.holds Try.pinned (OpenSpec.ofChange balanceEndsWrong)

/-- 'haulagelaw25.BalanceBegins': WHATEVER THE INPUT: true; the input reads as it did. -/
def balanceBeginsSpec : ChangeSpec := { name := "balanceBegins", fn := fun _ => fun
  | [d1, d2, d3] => { results := [.lit (.bool true)], args := [d1, d2, d3] }
  | _ => none }
def balanceBeginsRow : OpenClaim := { program := "ytkpjnikmcojdlaa", sum := "aae3a8b42d4e595ef9ce18c3431641c35341c29e2d64d69d8b023abbefb7136e", func := "haulage/haulagelaw25.BalanceBegins", spec := "balanceBegins", inPlace := ["math.Float64bits", "math.Float64frombits"], unfollowed := true, recurses := true, apart := false }
def BalanceBeginsSaid : Prop := balanceBeginsRow.holds Try.pinned (OpenSpec.ofChange balanceBeginsSpec)

/-- ITS FALSE NEIGHBOUR: 'it returns false'. Refute it at one input. -/
def balanceBeginsWrong : ChangeSpec := { name := "balanceBegins", fn := fun _ => fun
  | [d1, d2, d3] => { results := [.lit (.bool false)], args := [d1, d2, d3] }
  | _ => none }
def BalanceBeginsWrongFalsely : Prop := balanceBeginsRow.holds Try.pinned (OpenSpec.ofChange balanceBeginsWrong)

/-- 'haulagelaw25.BalanceOwn': WHATEVER THE INPUT: true; the input reads as it did. -/
def balanceOwnSpec : ChangeSpec := { name := "balanceOwn", fn := fun _ => fun
  | [d1, d2] => { results := [.lit (.bool true)], args := [d1, d2] }
  | _ => none }
def balanceOwnRow : OpenClaim := { program := "ytkpjnikmcojdlaa", sum := "aae3a8b42d4e595ef9ce18c3431641c35341c29e2d64d69d8b023abbefb7136e", func := "haulage/haulagelaw25.BalanceOwn", spec := "balanceOwn", inPlace := ["math.Float64bits", "math.Float64frombits"], unfollowed := true, recurses := true, apart := false }
def BalanceOwnSaid : Prop := balanceOwnRow.holds Try.pinned (OpenSpec.ofChange balanceOwnSpec)

/-- ITS FALSE NEIGHBOUR: 'it returns false'. Refute it at one input. -/
def balanceOwnWrong : ChangeSpec := { name := "balanceOwn", fn := fun _ => fun
  | [d1, d2] => { results := [.lit (.bool false)], args := [d1, d2] }
  | _ => none }
def BalanceOwnWrongFalsely : Prop := balanceOwnRow.holds Try.pinned (OpenSpec.ofChange balanceOwnWrong)

/- THE SECOND FORM. 'bulk': how many values and letters a reading holds, each counted each time it is reached (what is shared counts as often as it is met; a slice's spare places count too). A statement '..UptoSaid' is the law's where the arguments, and the package variables that the reading takes, are together of bulk at most 1048576: NARROWER than '..Said'. Prove '..Said' where nothing that the law and all that it calls make is longer than what came in: it says more and counts as full. Else prove '..UptoSaid'. A law counts once. -/
mutual
def uptoBulk {H : Type} : DataW H → Nat
  | .lit (.string bytes) => bytes.length + 1
  | .lit _ => 1
  | .nil => 1
  | .ptr d => uptoBulk d + 1
  | .slice elems spare => uptoBulkAll elems + uptoBulkAll spare + 1
  | .agg parts => uptoBulkAll parts + 1
  | .iface _ d => uptoBulk d + 1
  | .map entries => uptoBulkEntries entries + 1
  | .held _ => 1
def uptoBulkAll {H : Type} : List (DataW H) → Nat
  | [] => 0
  | d :: r => uptoBulk d + uptoBulkAll r
def uptoBulkEntries {H : Type} : List (Lit × DataW H) → Nat
  | [] => 0
  | x :: r => uptoBulkEntry x + uptoBulkEntries r
def uptoBulkEntry {H : Type} : Lit × DataW H → Nat
  | (.string bytes, d) => bytes.length + uptoBulk d + 1
  | (_, d) => uptoBulk d + 1
 end
def uptoSmall : (H : Type) → List (DataW H) → Bool := fun _ ds => decide (uptoBulkAll ds ≤ 1048576)
def OpenSpec.upto (s : _root_.Go.ChangeSpec) : _root_.Go.OpenSpec := { _root_.Go.OpenSpec.ofChange s with cond := some uptoSmall }

/-- 'haulagelaw25.BalanceApplies', WHERE WHAT IT READS IS OF BULK AT MOST 1048576: true; the input reads as it did. -/
def balanceAppliesUptoRow : OpenClaim := { program := "ytkpjnikmcojdlaa", sum := "aae3a8b42d4e595ef9ce18c3431641c35341c29e2d64d69d8b023abbefb7136e", func := "haulage/haulagelaw25.BalanceApplies", spec := "balanceApplies", unfollowed := true, recurses := true, apart := false, narrowed := true }
def BalanceAppliesUptoSaid : Prop := balanceAppliesUptoRow.holds Try.pinned (OpenSpec.upto balanceAppliesSpec)

/-- 'haulagelaw25.BalanceSums', WHERE WHAT IT READS IS OF BULK AT MOST 1048576: true; the input reads as it did. -/
def balanceSumsUptoRow : OpenClaim := { program := "ytkpjnikmcojdlaa", sum := "aae3a8b42d4e595ef9ce18c3431641c35341c29e2d64d69d8b023abbefb7136e", func := "haulage/haulagelaw25.BalanceSums", spec := "balanceSums", inPlace := ["math.Float64frombits", "math.Float64bits"], unfollowed := true, recurses := true, apart := false, narrowed := true }
def BalanceSumsUptoSaid : Prop := balanceSumsUptoRow.holds Try.pinned (OpenSpec.upto balanceSumsSpec)

/-- 'haulagelaw25.BalancePlans', WHERE WHAT IT READS IS OF BULK AT MOST 1048576: true; the input reads as it did. -/
def balancePlansUptoRow : OpenClaim := { program := "ytkpjnikmcojdlaa", sum := "aae3a8b42d4e595ef9ce18c3431641c35341c29e2d64d69d8b023abbefb7136e", func := "haulage/haulagelaw25.BalancePlans", spec := "balancePlans", inPlace := ["math.Float64frombits", "math.Float64bits"], unfollowed := true, recurses := true, apart := false, narrowed := true }
def BalancePlansUptoSaid : Prop := balancePlansUptoRow.holds Try.pinned (OpenSpec.upto balancePlansSpec)

/-- 'haulagelaw25.BalanceTwice', WHERE WHAT IT READS IS OF BULK AT MOST 1048576: true; the input reads as it did. -/
def balanceTwiceUptoRow : OpenClaim := { program := "ytkpjnikmcojdlaa", sum := "aae3a8b42d4e595ef9ce18c3431641c35341c29e2d64d69d8b023abbefb7136e", func := "haulage/haulagelaw25.BalanceTwice", spec := "balanceTwice", inPlace := ["math.Float64bits"], unfollowed := true, recurses := true, apart := false, narrowed := true }
def BalanceTwiceUptoSaid : Prop := balanceTwiceUptoRow.holds Try.pinned (OpenSpec.upto balanceTwiceSpec)

/-- 'haulagelaw25.BalanceBetter', WHERE WHAT IT READS IS OF BULK AT MOST 1048576: true; the input reads as it did. -/
def balanceBetterUptoRow : OpenClaim := { program := "ytkpjnikmcojdlaa", sum := "aae3a8b42d4e595ef9ce18c3431641c35341c29e2d64d69d8b023abbefb7136e", func := "haulage/haulagelaw25.BalanceBetter", spec := "balanceBetter", inPlace := ["math.Float64bits", "math.Float64frombits"], unfollowed := true, recurses := true, apart := false, narrowed := true }
def BalanceBetterUptoSaid : Prop := balanceBetterUptoRow.holds Try.pinned (OpenSpec.upto balanceBetterSpec)

/-- 'haulagelaw25.BalanceEnds', WHERE WHAT IT READS IS OF BULK AT MOST 1048576: true; the input reads as it did. -/
def balanceEndsUptoRow : OpenClaim := { program := "ytkpjnikmcojdlaa", sum := "aae3a8b42d4e595ef9ce18c3431641c35341c29e2d64d69d8b023abbefb7136e", func := "haulage/haulagelaw25.BalanceEnds", spec := "balanceEnds", inPlace := ["math.Float64bits", "math.Float64frombits"], unfollowed := true, recurses := true, apart := false, narrowed := true }
def BalanceEndsUptoSaid : Prop := balanceEndsUptoRow.holds Try.pinned (OpenSpec.upto balanceEndsSpec)

/-- 'haulagelaw25.BalanceBegins', WHERE WHAT IT READS IS OF BULK AT MOST 1048576: true; the input reads as it did. -/
def balanceBeginsUptoRow : OpenClaim := { program := "ytkpjnikmcojdlaa", sum := "aae3a8b42d4e595ef9ce18c3431641c35341c29e2d64d69d8b023abbefb7136e", func := "haulage/haulagelaw25.BalanceBegins", spec := "balanceBegins", inPlace := ["math.Float64bits", "math.Float64frombits"], unfollowed := true, recurses := true, apart := false, narrowed := true }
def BalanceBeginsUptoSaid : Prop := balanceBeginsUptoRow.holds Try.pinned (OpenSpec.upto balanceBeginsSpec)

/-- 'haulagelaw25.BalanceOwn', WHERE WHAT IT READS IS OF BULK AT MOST 1048576: true; the input reads as it did. -/
def balanceOwnUptoRow : OpenClaim := { program := "ytkpjnikmcojdlaa", sum := "aae3a8b42d4e595ef9ce18c3431641c35341c29e2d64d69d8b023abbefb7136e", func := "haulage/haulagelaw25.BalanceOwn", spec := "balanceOwn", inPlace := ["math.Float64bits", "math.Float64frombits"], unfollowed := true, recurses := true, apart := false, narrowed := true }
def BalanceOwnUptoSaid : Prop := balanceOwnUptoRow.holds Try.pinned (OpenSpec.upto balanceOwnSpec)

end Rows
end Go.Proofs.Ytkpjnikmcojdlaa
