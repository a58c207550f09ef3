/-
  No cell of these rows narrows 'for every input' (looked for: loops, veiled, ifaces, maps, wideKeys, modest, calm, conditions, laid).
  DERIVED. THE GIVEN ROWS OF THIS SEAT. 18 by the template 'for every input the law returns true; each argument reads behind the call as it read before'; 0 by the template 'total and deterministic' (their statements: YtjcbmlpfpcpakaaTotals.lean).
  GIVEN WITH THE SEED: the statements are not yours to turn. If you find one false, say at which input.
  Laid BY PROGRAM, IN A SANDBOX (cutbox-rows.mjs): the forced cells as the released guide's own fill.sh prints them over the translation 047eb27117810701… (all of the seat's roots in one cut). By AI agents, Wed Nov 11 2026. No macro, syntax, notation, axiom, sorry.
-/
import Derived.Test.YtjcbmlpfpcpakaaChecked
import GoSem.Claim
import GoSem.ClaimJoined
import GoSem.ClaimMapViews
import Derived.JoinedTies
import Derived.KernelRfl
namespace Go.Proofs.Ytjcbmlpfpcpakaa
/- THE CELL 'sum', in the pinned program and in every row, IS THE sha256 OF THE DUMP (.gsa) THAT YtjcbmlpfpcpakaaProg.lean LOADS. Nothing in Lean hashes anything: it is a label: what it is worth is what the hold of that sum in a sandbox is worth. -/
noncomputable def Try.pinned : Pinned := { name := "ytjcbmlpfpcpakaa", sum := "047eb27117810701456ee83a641ee6330391bb81db8e2930b8159f0fee22f309", checked := Try.checked }
namespace Rows
def none {H : Type} : Left H := { results := [], args := [] }

/-- 'haulagelaw11.WalNeeds': WHATEVER THE INPUT: true; the input reads as it did. -/
def walNeedsSpec : ChangeSpec := { name := "walNeeds", fn := fun _ => fun
  | [d] => { results := [.lit (.bool true)], args := [d] }
  | _ => none }
def walNeedsRow : OpenClaim := { program := "ytjcbmlpfpcpakaa", sum := "047eb27117810701456ee83a641ee6330391bb81db8e2930b8159f0fee22f309", func := "haulage/haulagelaw11.WalNeeds", spec := "walNeeds", apart := false }
def WalNeedsSaid : Prop := walNeedsRow.holds Try.pinned (OpenSpec.ofChange walNeedsSpec)

/-- ITS FALSE NEIGHBOUR: 'it returns false'. Refute it at one input. -/
def walNeedsWrong : ChangeSpec := { name := "walNeeds", fn := fun _ => fun
  | [d] => { results := [.lit (.bool false)], args := [d] }
  | _ => none }
def WalNeedsWrongFalsely : Prop := walNeedsRow.holds Try.pinned (OpenSpec.ofChange walNeedsWrong)

/-- 'haulagelaw08.DiskCrash': WHATEVER THE INPUT: true; the input reads as it did. -/
def diskCrashSpec : ChangeSpec := { name := "diskCrash", fn := fun _ => fun
  | [d1, d2, d3, d4, d5, d6, d7, d8] => { results := [.lit (.bool true)], args := [d1, d2, d3, d4, d5, d6, d7, d8] }
  | _ => none }
def diskCrashRow : OpenClaim := { program := "ytjcbmlpfpcpakaa", sum := "047eb27117810701456ee83a641ee6330391bb81db8e2930b8159f0fee22f309", func := "haulage/haulagelaw08.DiskCrash", spec := "diskCrash", apart := false }
def DiskCrashSaid : Prop := diskCrashRow.holds Try.pinned (OpenSpec.ofChange diskCrashSpec)

/-- ITS FALSE NEIGHBOUR: 'it returns false'. Refute it at one input. -/
def diskCrashWrong : ChangeSpec := { name := "diskCrash", fn := fun _ => fun
  | [d1, d2, d3, d4, d5, d6, d7, d8] => { results := [.lit (.bool false)], args := [d1, d2, d3, d4, d5, d6, d7, d8] }
  | _ => none }
def DiskCrashWrongFalsely : Prop := diskCrashRow.holds Try.pinned (OpenSpec.ofChange diskCrashWrong)

/-- 'haulagelaw08.DiskOwn': WHATEVER THE INPUT: true; the input reads as it did. -/
def diskOwnSpec : ChangeSpec := { name := "diskOwn", fn := fun _ => fun
  | [d1, d2, d3] => { results := [.lit (.bool true)], args := [d1, d2, d3] }
  | _ => none }
def diskOwnRow : OpenClaim := { program := "ytjcbmlpfpcpakaa", sum := "047eb27117810701456ee83a641ee6330391bb81db8e2930b8159f0fee22f309", func := "haulage/haulagelaw08.DiskOwn", spec := "diskOwn", apart := false }
def DiskOwnSaid : Prop := diskOwnRow.holds Try.pinned (OpenSpec.ofChange diskOwnSpec)

/-- ITS FALSE NEIGHBOUR: 'it returns false'. Refute it at one input. -/
def diskOwnWrong : ChangeSpec := { name := "diskOwn", fn := fun _ => fun
  | [d1, d2, d3] => { results := [.lit (.bool false)], args := [d1, d2, d3] }
  | _ => none }
def DiskOwnWrongFalsely : Prop := diskOwnRow.holds Try.pinned (OpenSpec.ofChange diskOwnWrong)

/-- 'haulagelaw08.DiskScript': WHATEVER THE INPUT: true; the input reads as it did. -/
def diskScriptSpec : ChangeSpec := { name := "diskScript", fn := fun _ => fun
  | [d1, d2, d3] => { results := [.lit (.bool true)], args := [d1, d2, d3] }
  | _ => none }
def diskScriptRow : OpenClaim := { program := "ytjcbmlpfpcpakaa", sum := "047eb27117810701456ee83a641ee6330391bb81db8e2930b8159f0fee22f309", func := "haulage/haulagelaw08.DiskScript", spec := "diskScript", apart := false }
def DiskScriptSaid : Prop := diskScriptRow.holds Try.pinned (OpenSpec.ofChange diskScriptSpec)

/-- ITS FALSE NEIGHBOUR: 'it returns false'. Refute it at one input. -/
def diskScriptWrong : ChangeSpec := { name := "diskScript", fn := fun _ => fun
  | [d1, d2, d3] => { results := [.lit (.bool false)], args := [d1, d2, d3] }
  | _ => none }
def DiskScriptWrongFalsely : Prop := diskScriptRow.holds Try.pinned (OpenSpec.ofChange diskScriptWrong)

/-- 'haulagelaw08.DiskKnown': WHATEVER THE INPUT: true; the input reads as it did. -/
def diskKnownSpec : ChangeSpec := { name := "diskKnown", fn := fun _ => fun
  | [] => { results := [.lit (.bool true)], args := [] }
  | _ => none }
def diskKnownRow : OpenClaim := { program := "ytjcbmlpfpcpakaa", sum := "047eb27117810701456ee83a641ee6330391bb81db8e2930b8159f0fee22f309", func := "haulage/haulagelaw08.DiskKnown", spec := "diskKnown", apart := false }
def DiskKnownSaid : Prop := diskKnownRow.holds Try.pinned (OpenSpec.ofChange diskKnownSpec)

/-- ITS FALSE NEIGHBOUR: 'it returns false'. Refute it at one input. -/
def diskKnownWrong : ChangeSpec := { name := "diskKnown", fn := fun _ => fun
  | [] => { results := [.lit (.bool false)], args := [] }
  | _ => none }
def DiskKnownWrongFalsely : Prop := diskKnownRow.holds Try.pinned (OpenSpec.ofChange diskKnownWrong)

/-- 'haulagelaw08.DiskSafe': WHATEVER THE INPUT: true; the input reads as it did. -/
def diskSafeSpec : ChangeSpec := { name := "diskSafe", fn := fun _ => fun
  | [d1, d2, d3, d4, d5] => { results := [.lit (.bool true)], args := [d1, d2, d3, d4, d5] }
  | _ => none }
def diskSafeRow : OpenClaim := { program := "ytjcbmlpfpcpakaa", sum := "047eb27117810701456ee83a641ee6330391bb81db8e2930b8159f0fee22f309", func := "haulage/haulagelaw08.DiskSafe", spec := "diskSafe", apart := false }
def DiskSafeSaid : Prop := diskSafeRow.holds Try.pinned (OpenSpec.ofChange diskSafeSpec)

/-- ITS FALSE NEIGHBOUR: 'it returns false'. Refute it at one input. -/
def diskSafeWrong : ChangeSpec := { name := "diskSafe", fn := fun _ => fun
  | [d1, d2, d3, d4, d5] => { results := [.lit (.bool false)], args := [d1, d2, d3, d4, d5] }
  | _ => none }
def DiskSafeWrongFalsely : Prop := diskSafeRow.holds Try.pinned (OpenSpec.ofChange diskSafeWrong)

/-- 'haulagelaw12.ShotApart': WHATEVER THE INPUT: true; the input reads as it did. -/
def shotApartSpec : ChangeSpec := { name := "shotApart", fn := fun _ => fun
  | [d1, d2, d3, d4] => { results := [.lit (.bool true)], args := [d1, d2, d3, d4] }
  | _ => none }
def shotApartRow : OpenClaim := { program := "ytjcbmlpfpcpakaa", sum := "047eb27117810701456ee83a641ee6330391bb81db8e2930b8159f0fee22f309", func := "haulage/haulagelaw12.ShotApart", spec := "shotApart", unfollowed := true, recurses := true, apart := false }
def ShotApartSaid : Prop := shotApartRow.holds Try.pinned (OpenSpec.ofChange shotApartSpec)

/-- ITS FALSE NEIGHBOUR: 'it returns false'. Refute it at one input. -/
def shotApartWrong : ChangeSpec := { name := "shotApart", fn := fun _ => fun
  | [d1, d2, d3, d4] => { results := [.lit (.bool false)], args := [d1, d2, d3, d4] }
  | _ => none }
def ShotApartWrongFalsely : Prop := shotApartRow.holds Try.pinned (OpenSpec.ofChange shotApartWrong)

/-- 'haulagelaw12.ShotOwn': WHATEVER THE INPUT: true; the input reads as it did. -/
def shotOwnSpec : ChangeSpec := { name := "shotOwn", fn := fun _ => fun
  | [d1, d2, d3] => { results := [.lit (.bool true)], args := [d1, d2, d3] }
  | _ => none }
def shotOwnRow : OpenClaim := { program := "ytjcbmlpfpcpakaa", sum := "047eb27117810701456ee83a641ee6330391bb81db8e2930b8159f0fee22f309", func := "haulage/haulagelaw12.ShotOwn", spec := "shotOwn", unfollowed := true, recurses := true, apart := false }
def ShotOwnSaid : Prop := shotOwnRow.holds Try.pinned (OpenSpec.ofChange shotOwnSpec)

/-- ITS FALSE NEIGHBOUR: 'it returns false'. Refute it at one input. -/
def shotOwnWrong : ChangeSpec := { name := "shotOwn", fn := fun _ => fun
  | [d1, d2, d3] => { results := [.lit (.bool false)], args := [d1, d2, d3] }
  | _ => none }
def ShotOwnWrongFalsely : Prop := shotOwnRow.holds Try.pinned (OpenSpec.ofChange shotOwnWrong)

/-- 'haulagelaw12.ShotBack': WHATEVER THE INPUT: true; the input reads as it did. -/
def shotBackSpec : ChangeSpec := { name := "shotBack", fn := fun _ => fun
  | [d1, d2, d3] => { results := [.lit (.bool true)], args := [d1, d2, d3] }
  | _ => none }
def shotBackRow : OpenClaim := { program := "ytjcbmlpfpcpakaa", sum := "047eb27117810701456ee83a641ee6330391bb81db8e2930b8159f0fee22f309", func := "haulage/haulagelaw12.ShotBack", spec := "shotBack", unfollowed := true, recurses := true, apart := false }
def ShotBackSaid : Prop := shotBackRow.holds Try.pinned (OpenSpec.ofChange shotBackSpec)

/-- ITS FALSE NEIGHBOUR: 'it returns false'. Refute it at one input. -/
def shotBackWrong : ChangeSpec := { name := "shotBack", fn := fun _ => fun
  | [d1, d2, d3] => { results := [.lit (.bool false)], args := [d1, d2, d3] }
  | _ => none }
def ShotBackWrongFalsely : Prop := shotBackRow.holds Try.pinned (OpenSpec.ofChange shotBackWrong)

/-- 'haulagelaw12.ShotCrash': WHATEVER THE INPUT: true; the input reads as it did. -/
def shotCrashSpec : ChangeSpec := { name := "shotCrash", fn := fun _ => fun
  | [d1, d2, d3] => { results := [.lit (.bool true)], args := [d1, d2, d3] }
  | _ => none }
def shotCrashRow : OpenClaim := { program := "ytjcbmlpfpcpakaa", sum := "047eb27117810701456ee83a641ee6330391bb81db8e2930b8159f0fee22f309", func := "haulage/haulagelaw12.ShotCrash", spec := "shotCrash", unfollowed := true, recurses := true, apart := false }
def ShotCrashSaid : Prop := shotCrashRow.holds Try.pinned (OpenSpec.ofChange shotCrashSpec)

/-- ITS FALSE NEIGHBOUR: 'it returns false'. Refute it at one input. -/
def shotCrashWrong : ChangeSpec := { name := "shotCrash", fn := fun _ => fun
  | [d1, d2, d3] => { results := [.lit (.bool false)], args := [d1, d2, d3] }
  | _ => none }
def ShotCrashWrongFalsely : Prop := shotCrashRow.holds Try.pinned (OpenSpec.ofChange shotCrashWrong)

/-- 'haulagelaw12.ShotTurned': WHATEVER THE INPUT: true; the input reads as it did. -/
def shotTurnedSpec : ChangeSpec := { name := "shotTurned", fn := fun _ => fun
  | [d1, d2, d3, d4, d5, d6] => { results := [.lit (.bool true)], args := [d1, d2, d3, d4, d5, d6] }
  | _ => none }
def shotTurnedRow : OpenClaim := { program := "ytjcbmlpfpcpakaa", sum := "047eb27117810701456ee83a641ee6330391bb81db8e2930b8159f0fee22f309", func := "haulage/haulagelaw12.ShotTurned", spec := "shotTurned", unfollowed := true, recurses := true, apart := false }
def ShotTurnedSaid : Prop := shotTurnedRow.holds Try.pinned (OpenSpec.ofChange shotTurnedSpec)

/-- ITS FALSE NEIGHBOUR: 'it returns false'. Refute it at one input. -/
def shotTurnedWrong : ChangeSpec := { name := "shotTurned", fn := fun _ => fun
  | [d1, d2, d3, d4, d5, d6] => { results := [.lit (.bool false)], args := [d1, d2, d3, d4, d5, d6] }
  | _ => none }
def ShotTurnedWrongFalsely : Prop := shotTurnedRow.holds Try.pinned (OpenSpec.ofChange shotTurnedWrong)

/-- 'haulagelaw12.ShotPlays': WHATEVER THE INPUT: true; the input reads as it did. -/
def shotPlaysSpec : ChangeSpec := { name := "shotPlays", fn := fun _ => fun
  | [d1, d2] => { results := [.lit (.bool true)], args := [d1, d2] }
  | _ => none }
def shotPlaysRow : OpenClaim := { program := "ytjcbmlpfpcpakaa", sum := "047eb27117810701456ee83a641ee6330391bb81db8e2930b8159f0fee22f309", func := "haulage/haulagelaw12.ShotPlays", spec := "shotPlays", unfollowed := true, recurses := true, apart := false }
def ShotPlaysSaid : Prop := shotPlaysRow.holds Try.pinned (OpenSpec.ofChange shotPlaysSpec)

/-- ITS FALSE NEIGHBOUR: 'it returns false'. Refute it at one input. -/
def shotPlaysWrong : ChangeSpec := { name := "shotPlays", fn := fun _ => fun
  | [d1, d2] => { results := [.lit (.bool false)], args := [d1, d2] }
  | _ => none }
def ShotPlaysWrongFalsely : Prop := shotPlaysRow.holds Try.pinned (OpenSpec.ofChange shotPlaysWrong)

/-- 'haulagelaw11.WalOwn': WHATEVER THE INPUT: true; the input reads as it did. -/
def walOwnSpec : ChangeSpec := { name := "walOwn", fn := fun _ => fun
  | [d1, d2] => { results := [.lit (.bool true)], args := [d1, d2] }
  | _ => none }
def walOwnRow : OpenClaim := { program := "ytjcbmlpfpcpakaa", sum := "047eb27117810701456ee83a641ee6330391bb81db8e2930b8159f0fee22f309", func := "haulage/haulagelaw11.WalOwn", spec := "walOwn", unfollowed := true, recurses := true, apart := false }
def WalOwnSaid : Prop := walOwnRow.holds Try.pinned (OpenSpec.ofChange walOwnSpec)

/-- ITS FALSE NEIGHBOUR: 'it returns false'. Refute it at one input. -/
def walOwnWrong : ChangeSpec := { name := "walOwn", fn := fun _ => fun
  | [d1, d2] => { results := [.lit (.bool false)], args := [d1, d2] }
  | _ => none }
def WalOwnWrongFalsely : Prop := walOwnRow.holds Try.pinned (OpenSpec.ofChange walOwnWrong)

/-- 'haulagelaw11.WalTurned': WHATEVER THE INPUT: true; the input reads as it did. -/
def walTurnedSpec : ChangeSpec := { name := "walTurned", fn := fun _ => fun
  | [d1, d2, d3, d4, d5, d6] => { results := [.lit (.bool true)], args := [d1, d2, d3, d4, d5, d6] }
  | _ => none }
def walTurnedRow : OpenClaim := { program := "ytjcbmlpfpcpakaa", sum := "047eb27117810701456ee83a641ee6330391bb81db8e2930b8159f0fee22f309", func := "haulage/haulagelaw11.WalTurned", spec := "walTurned", unfollowed := true, recurses := true, apart := false }
def WalTurnedSaid : Prop := walTurnedRow.holds Try.pinned (OpenSpec.ofChange walTurnedSpec)

/-- ITS FALSE NEIGHBOUR: 'it returns false'. Refute it at one input. -/
def walTurnedWrong : ChangeSpec := { name := "walTurned", fn := fun _ => fun
  | [d1, d2, d3, d4, d5, d6] => { results := [.lit (.bool false)], args := [d1, d2, d3, d4, d5, d6] }
  | _ => none }
def WalTurnedWrongFalsely : Prop := walTurnedRow.holds Try.pinned (OpenSpec.ofChange walTurnedWrong)

/-- 'haulagelaw11.WalKnown': WHATEVER THE INPUT: true; the input reads as it did. -/
def walKnownSpec : ChangeSpec := { name := "walKnown", fn := fun _ => fun
  | [] => { results := [.lit (.bool true)], args := [] }
  | _ => none }
def walKnownRow : OpenClaim := { program := "ytjcbmlpfpcpakaa", sum := "047eb27117810701456ee83a641ee6330391bb81db8e2930b8159f0fee22f309", func := "haulage/haulagelaw11.WalKnown", spec := "walKnown", unfollowed := true, recurses := true, apart := false }
def WalKnownSaid : Prop := walKnownRow.holds Try.pinned (OpenSpec.ofChange walKnownSpec)

/-- ITS FALSE NEIGHBOUR: 'it returns false'. Refute it at one input. -/
def walKnownWrong : ChangeSpec := { name := "walKnown", fn := fun _ => fun
  | [] => { results := [.lit (.bool false)], args := [] }
  | _ => none }
def WalKnownWrongFalsely : Prop := walKnownRow.holds Try.pinned (OpenSpec.ofChange walKnownWrong)

/-- 'haulagelaw11.WalScript': WHATEVER THE INPUT: true; the input reads as it did. -/
def walScriptSpec : ChangeSpec := { name := "walScript", fn := fun _ => fun
  | [d1, d2, d3, d4] => { results := [.lit (.bool true)], args := [d1, d2, d3, d4] }
  | _ => none }
def walScriptRow : OpenClaim := { program := "ytjcbmlpfpcpakaa", sum := "047eb27117810701456ee83a641ee6330391bb81db8e2930b8159f0fee22f309", func := "haulage/haulagelaw11.WalScript", spec := "walScript", unfollowed := true, recurses := true, apart := false }
def WalScriptSaid : Prop := walScriptRow.holds Try.pinned (OpenSpec.ofChange walScriptSpec)

/-- ITS FALSE NEIGHBOUR: 'it returns false'. Refute it at one input. -/
def walScriptWrong : ChangeSpec := { name := "walScript", fn := fun _ => fun
  | [d1, d2, d3, d4] => { results := [.lit (.bool false)], args := [d1, d2, d3, d4] }
  | _ => none }
def WalScriptWrongFalsely : Prop := walScriptRow.holds Try.pinned (OpenSpec.ofChange walScriptWrong)

/-- 'haulagelaw11.WalCrash': WHATEVER THE INPUT: true; the input reads as it did. -/
def walCrashSpec : ChangeSpec := { name := "walCrash", fn := fun _ => fun
  | [d1, d2, d3, d4] => { results := [.lit (.bool true)], args := [d1, d2, d3, d4] }
  | _ => none }
def walCrashRow : OpenClaim := { program := "ytjcbmlpfpcpakaa", sum := "047eb27117810701456ee83a641ee6330391bb81db8e2930b8159f0fee22f309", func := "haulage/haulagelaw11.WalCrash", spec := "walCrash", unfollowed := true, recurses := true, apart := false }
def WalCrashSaid : Prop := walCrashRow.holds Try.pinned (OpenSpec.ofChange walCrashSpec)

/-- ITS FALSE NEIGHBOUR: 'it returns false'. Refute it at one input. -/
def walCrashWrong : ChangeSpec := { name := "walCrash", fn := fun _ => fun
  | [d1, d2, d3, d4] => { results := [.lit (.bool false)], args := [d1, d2, d3, d4] }
  | _ => none }
def WalCrashWrongFalsely : Prop := walCrashRow.holds Try.pinned (OpenSpec.ofChange walCrashWrong)

/-- 'haulagelaw11.WalBeside': WHATEVER THE INPUT: true; the input reads as it did. -/
def walBesideSpec : ChangeSpec := { name := "walBeside", fn := fun _ => fun
  | [d1, d2, d3, d4] => { results := [.lit (.bool true)], args := [d1, d2, d3, d4] }
  | _ => none }
def walBesideRow : OpenClaim := { program := "ytjcbmlpfpcpakaa", sum := "047eb27117810701456ee83a641ee6330391bb81db8e2930b8159f0fee22f309", func := "haulage/haulagelaw11.WalBeside", spec := "walBeside", unfollowed := true, recurses := true, apart := false }
def WalBesideSaid : Prop := walBesideRow.holds Try.pinned (OpenSpec.ofChange walBesideSpec)

/-- ITS FALSE NEIGHBOUR: 'it returns false'. Refute it at one input. -/
def walBesideWrong : ChangeSpec := { name := "walBeside", fn := fun _ => fun
  | [d1, d2, d3, d4] => { results := [.lit (.bool false)], args := [d1, d2, d3, d4] }
  | _ => none }
def WalBesideWrongFalsely : Prop := walBesideRow.holds Try.pinned (OpenSpec.ofChange walBesideWrong)

/- THE SECOND FORM. 'bulk': how many values and letters a reading holds, each counted each time it is reached (what is shared counts as often as it is met; a slice's spare places count too). A statement '..UptoSaid' is the law's where the arguments, and the package variables that the reading takes, are together of bulk at most 1048576: NARROWER than '..Said'. Prove '..Said' where nothing that the law and all that it calls make is longer than what came in: it says more and counts as full. Else prove '..UptoSaid'. A law counts once. -/
mutual
def uptoBulk {H : Type} : DataW H → Nat
  | .lit (.string bytes) => bytes.length + 1
  | .lit _ => 1
  | .nil => 1
  | .ptr d => uptoBulk d + 1
  | .slice elems spare => uptoBulkAll elems + uptoBulkAll spare + 1
  | .agg parts => uptoBulkAll parts + 1
  | .iface _ d => uptoBulk d + 1
  | .map entries => uptoBulkEntries entries + 1
  | .held _ => 1
def uptoBulkAll {H : Type} : List (DataW H) → Nat
  | [] => 0
  | d :: r => uptoBulk d + uptoBulkAll r
def uptoBulkEntries {H : Type} : List (Lit × DataW H) → Nat
  | [] => 0
  | x :: r => uptoBulkEntry x + uptoBulkEntries r
def uptoBulkEntry {H : Type} : Lit × DataW H → Nat
  | (.string bytes, d) => bytes.length + uptoBulk d + 1
  | (_, d) => uptoBulk d + 1
 end
def uptoSmall : (H : Type) → List (DataW H) → Bool := fun _ ds => decide (uptoBulkAll ds ≤ 1048576)
def OpenSpec.upto (s : _root_.Go.ChangeSpec) : _root_.Go.OpenSpec := { _root_.Go.OpenSpec.ofChange s with cond := some uptoSmall }

/-- 'haulagelaw11.WalNeeds', WHERE WHAT IT READS IS OF BULK AT MOST 1048576: true; the input reads as it did. -/
def walNeedsUptoRow : OpenClaim := { program := "ytjcbmlpfpcpakaa", sum := "047eb27117810701456ee83a641ee6330391bb81db8e2930b8159f0fee22f309", func := "haulage/haulagelaw11.WalNeeds", spec := "walNeeds", apart := false, narrowed := true }
def WalNeedsUptoSaid : Prop := walNeedsUptoRow.holds Try.pinned (OpenSpec.upto walNeedsSpec)

/-- 'haulagelaw08.DiskCrash', WHERE WHAT IT READS IS OF BULK AT MOST 1048576: true; the input reads as it did. -/
def diskCrashUptoRow : OpenClaim := { program := "ytjcbmlpfpcpakaa", sum := "047eb27117810701456ee83a641ee6330391bb81db8e2930b8159f0fee22f309", func := "haulage/haulagelaw08.DiskCrash", spec := "diskCrash", apart := false, narrowed := true }
def DiskCrashUptoSaid : Prop := diskCrashUptoRow.holds Try.pinned (OpenSpec.upto diskCrashSpec)

/-- 'haulagelaw08.DiskOwn', WHERE WHAT IT READS IS OF BULK AT MOST 1048576: true; the input reads as it did. -/
def diskOwnUptoRow : OpenClaim := { program := "ytjcbmlpfpcpakaa", sum := "047eb27117810701456ee83a641ee6330391bb81db8e2930b8159f0fee22f309", func := "haulage/haulagelaw08.DiskOwn", spec := "diskOwn", apart := false, narrowed := true }
def DiskOwnUptoSaid : Prop := diskOwnUptoRow.holds Try.pinned (OpenSpec.upto diskOwnSpec)

/-- 'haulagelaw08.DiskScript', WHERE WHAT IT READS IS OF BULK AT MOST 1048576: true; the input reads as it did. -/
def diskScriptUptoRow : OpenClaim := { program := "ytjcbmlpfpcpakaa", sum := "047eb27117810701456ee83a641ee6330391bb81db8e2930b8159f0fee22f309", func := "haulage/haulagelaw08.DiskScript", spec := "diskScript", apart := false, narrowed := true }
def DiskScriptUptoSaid : Prop := diskScriptUptoRow.holds Try.pinned (OpenSpec.upto diskScriptSpec)

/-- 'haulagelaw08.DiskKnown', WHERE WHAT IT READS IS OF BULK AT MOST 1048576: true; the input reads as it did. -/
def diskKnownUptoRow : OpenClaim := { program := "ytjcbmlpfpcpakaa", sum := "047eb27117810701456ee83a641ee6330391bb81db8e2930b8159f0fee22f309", func := "haulage/haulagelaw08.DiskKnown", spec := "diskKnown", apart := false, narrowed := true }
def DiskKnownUptoSaid : Prop := diskKnownUptoRow.holds Try.pinned (OpenSpec.upto diskKnownSpec)

/-- 'haulagelaw08.DiskSafe', WHERE WHAT IT READS IS OF BULK AT MOST 1048576: true; the input reads as it did. -/
def diskSafeUptoRow : OpenClaim := { program := "ytjcbmlpfpcpakaa", sum := "047eb27117810701456ee83a641ee6330391bb81db8e2930b8159f0fee22f309", func := "haulage/haulagelaw08.DiskSafe", spec := "diskSafe", apart := false, narrowed := true }
def DiskSafeUptoSaid : Prop := diskSafeUptoRow.holds Try.pinned (OpenSpec.upto diskSafeSpec)

/-- 'haulagelaw12.ShotApart', WHERE WHAT IT READS IS OF BULK AT MOST 1048576: true; the input reads as it did. -/
def shotApartUptoRow : OpenClaim := { program := "ytjcbmlpfpcpakaa", sum := "047eb27117810701456ee83a641ee6330391bb81db8e2930b8159f0fee22f309", func := "haulage/haulagelaw12.ShotApart", spec := "shotApart", unfollowed := true, recurses := true, apart := false, narrowed := true }
def ShotApartUptoSaid : Prop := shotApartUptoRow.holds Try.pinned (OpenSpec.upto shotApartSpec)

/-- 'haulagelaw12.ShotOwn', WHERE WHAT IT READS IS OF BULK AT MOST 1048576: true; the input reads as it did. -/
def shotOwnUptoRow : OpenClaim := { program := "ytjcbmlpfpcpakaa", sum := "047eb27117810701456ee83a641ee6330391bb81db8e2930b8159f0fee22f309", func := "haulage/haulagelaw12.ShotOwn", spec := "shotOwn", unfollowed := true, recurses := true, apart := false, narrowed := true }
def ShotOwnUptoSaid : Prop := shotOwnUptoRow.holds Try.pinned (OpenSpec.upto shotOwnSpec)

/-- 'haulagelaw12.ShotBack', WHERE WHAT IT READS IS OF BULK AT MOST 1048576: true; the input reads as it did. -/
def shotBackUptoRow : OpenClaim := { program := "ytjcbmlpfpcpakaa", sum := "047eb27117810701456ee83a641ee6330391bb81db8e2930b8159f0fee22f309", func := "haulage/haulagelaw12.ShotBack", spec := "shotBack", unfollowed := true, recurses := true, apart := false, narrowed := true }
def ShotBackUptoSaid : Prop := shotBackUptoRow.holds Try.pinned (OpenSpec.upto shotBackSpec)

/-- 'haulagelaw12.ShotCrash', WHERE WHAT IT READS IS OF BULK AT MOST 1048576: true; the input reads as it did. -/
def shotCrashUptoRow : OpenClaim := { program := "ytjcbmlpfpcpakaa", sum := "047eb27117810701456ee83a641ee6330391bb81db8e2930b8159f0fee22f309", func := "haulage/haulagelaw12.ShotCrash", spec := "shotCrash", unfollowed := true, recurses := true, apart := false, narrowed := true }
def ShotCrashUptoSaid : Prop := shotCrashUptoRow.holds Try.pinned (OpenSpec.upto shotCrashSpec)

/-- 'haulagelaw12.ShotTurned', WHERE WHAT IT READS IS OF BULK AT MOST 1048576: true; the input reads as it did. -/
def shotTurnedUptoRow : OpenClaim := { program := "ytjcbmlpfpcpakaa", sum := "047eb27117810701456ee83a641ee6330391bb81db8e2930b8159f0fee22f309", func := "haulage/haulagelaw12.ShotTurned", spec := "shotTurned", unfollowed := true, recurses := true, apart := false, narrowed := true }
def ShotTurnedUptoSaid : Prop := shotTurnedUptoRow.holds Try.pinned (OpenSpec.upto shotTurnedSpec)

/-- 'haulagelaw12.ShotPlays', WHERE WHAT IT READS IS OF BULK AT MOST 1048576: true; the input reads as it did. -/
def shotPlaysUptoRow : OpenClaim := { program := "ytjcbmlpfpcpakaa", sum := "047eb27117810701456ee83a641ee6330391bb81db8e2930b8159f0fee22f309", func := "haulage/haulagelaw12.ShotPlays", spec := "shotPlays", unfollowed := true, recurses := true, apart := false, narrowed := true }
def ShotPlaysUptoSaid : Prop := shotPlaysUptoRow.holds Try.pinned (OpenSpec.upto shotPlaysSpec)

/-- 'haulagelaw11.WalOwn', WHERE WHAT IT READS IS OF BULK AT MOST 1048576: true; the input reads as it did. -/
def walOwnUptoRow : OpenClaim := { program := "ytjcbmlpfpcpakaa", sum := "047eb27117810701456ee83a641ee6330391bb81db8e2930b8159f0fee22f309", func := "haulage/haulagelaw11.WalOwn", spec := "walOwn", unfollowed := true, recurses := true, apart := false, narrowed := true }
def WalOwnUptoSaid : Prop := walOwnUptoRow.holds Try.pinned (OpenSpec.upto walOwnSpec)

/-- 'haulagelaw11.WalTurned', WHERE WHAT IT READS IS OF BULK AT MOST 1048576: true; the input reads as it did. -/
def walTurnedUptoRow : OpenClaim := { program := "ytjcbmlpfpcpakaa", sum := "047eb27117810701456ee83a641ee6330391bb81db8e2930b8159f0fee22f309", func := "haulage/haulagelaw11.WalTurned", spec := "walTurned", unfollowed := true, recurses := true, apart := false, narrowed := true }
def WalTurnedUptoSaid : Prop := walTurnedUptoRow.holds Try.pinned (OpenSpec.upto walTurnedSpec)

/-- 'haulagelaw11.WalKnown', WHERE WHAT IT READS IS OF BULK AT MOST 1048576: true; the input reads as it did. -/
def walKnownUptoRow : OpenClaim := { program := "ytjcbmlpfpcpakaa", sum := "047eb27117810701456ee83a641ee6330391bb81db8e2930b8159f0fee22f309", func := "haulage/haulagelaw11.WalKnown", spec := "walKnown", unfollowed := true, recurses := true, apart := false, narrowed := true }
def WalKnownUptoSaid : Prop := walKnownUptoRow.holds Try.pinned (OpenSpec.upto walKnownSpec)

/-- 'haulagelaw11.WalScript', WHERE WHAT IT READS IS OF BULK AT MOST 1048576: true; the input reads as it did. -/
def walScriptUptoRow : OpenClaim := { program := "ytjcbmlpfpcpakaa", sum := "047eb27117810701456ee83a641ee6330391bb81db8e2930b8159f0fee22f309", func := "haulage/haulagelaw11.WalScript", spec := "walScript", unfollowed := true, recurses := true, apart := false, narrowed := true }
def WalScriptUptoSaid : Prop := walScriptUptoRow.holds Try.pinned (OpenSpec.upto walScriptSpec)

/-- 'haulagelaw11.WalCrash', WHERE WHAT IT READS IS OF BULK AT MOST 1048576: true; the input reads as it did. -/
def walCrashUptoRow : OpenClaim := { program := "ytjcbmlpfpcpakaa", sum := "047eb27117810701456ee83a641ee6330391bb81db8e2930b8159f0fee22f309", func := "haulage/haulagelaw11.WalCrash", spec := "walCrash", unfollowed := true, recurses := true, apart := false, narrowed := true }
def WalCrashUptoSaid : Prop := walCrashUptoRow.holds Try.pinned (OpenSpec.upto walCrashSpec)

/-- 'haulagelaw11.WalBeside', WHERE WHAT IT READS IS OF BULK AT MOST 1048576: true; the input reads as it did. -/
def walBesideUptoRow : OpenClaim := { program := "ytjcbmlpfpcpakaa", sum := "047eb27117810701456ee83a641ee6330391bb81db8e2930b8159f0fee22f309", func := "haulage/haulagelaw11.WalBeside", spec := "walBeside", unfollowed := true, recurses := true, apart := false, narrowed := true }
def WalBesideUptoSaid : Prop := walBesideUptoRow.holds Try.pinned (OpenSpec.upto walBesideSpec)

end Rows
end Go.Proofs.Ytjcbmlpfpcpakaa
