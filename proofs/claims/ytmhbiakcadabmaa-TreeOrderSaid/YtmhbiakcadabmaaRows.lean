/-
  No cell of these rows narrows 'for every input' (looked for: loops, veiled, ifaces, maps, wideKeys, modest, calm, conditions, laid).
  DERIVED. THE GIVEN ROWS OF THIS SEAT. 7 by the template 'for every input the law returns true; each argument reads behind the call as it read before'; 0 by the template 'total and deterministic' (their statements: YtmhbiakcadabmaaTotals.lean).
  GIVEN WITH THE SEED: the statements are not yours to turn. If you find one false, say at which input.
  Laid BY PROGRAM, IN A SANDBOX (cutbox-rows.mjs): the forced cells as the released guide's own fill.sh prints them over the translation 133741465c62404f… (all of the seat's roots in one cut). By AI agents, Wed Nov 11 2026. No macro, syntax, notation, axiom, sorry.
-/
import Derived.Test.YtmhbiakcadabmaaChecked
import GoSem.Claim
import GoSem.ClaimJoined
import GoSem.ClaimMapViews
import Derived.JoinedTies
import Derived.KernelRfl
namespace Go.Proofs.Ytmhbiakcadabmaa
/- THE CELL 'sum', in the pinned program and in every row, IS THE sha256 OF THE DUMP (.gsa) THAT YtmhbiakcadabmaaProg.lean LOADS. Nothing in Lean hashes anything: it is a label: what it is worth is what the hold of that sum in a sandbox is worth. -/
noncomputable def Try.pinned : Pinned := { name := "ytmhbiakcadabmaa", sum := "133741465c62404f4122e6a995bd3f90a9eb3be13ca14126f60ea27a0b32a757", checked := Try.checked }
namespace Rows
def none {H : Type} : Left H := { results := [], args := [] }

/-- 'hedgerowlaw10.TreeRanges': WHATEVER THE INPUT: true; the input reads as it did. -/
def treeRangesSpec : ChangeSpec := { name := "treeRanges", fn := fun _ => fun
  | [d1, d2, d3] => { results := [.lit (.bool true)], args := [d1, d2, d3] }
  | _ => none }
def treeRangesRow : OpenClaim := { program := "ytmhbiakcadabmaa", sum := "133741465c62404f4122e6a995bd3f90a9eb3be13ca14126f60ea27a0b32a757", func := "hedgerow/hedgerowlaw10.TreeRanges", spec := "treeRanges", inPlace := ["internal/bytealg.abigen_runtime_cmpstring", "slices.overlaps[hedgerow/tree.Entry]", "slices.overlaps[*hedgerow/tree.node]"], unfollowed := true, recurses := true, apart := false }
def TreeRangesSaid : Prop := treeRangesRow.holds Try.pinned (OpenSpec.ofChange treeRangesSpec)

/-- ITS FALSE NEIGHBOUR: 'it returns false'. Refute it at one input. -/
def treeRangesWrong : ChangeSpec := { name := "treeRanges", fn := fun _ => fun
  | [d1, d2, d3] => { results := [.lit (.bool false)], args := [d1, d2, d3] }
  | _ => none }
def TreeRangesWrongFalsely : Prop := treeRangesRow.holds Try.pinned (OpenSpec.ofChange treeRangesWrong)

/-- 'hedgerowlaw10.TreeOrder': WHATEVER THE INPUT: true; the input reads as it did. -/
def treeOrderSpec : ChangeSpec := { name := "treeOrder", fn := fun _ => fun
  | [d1, d2, d3] => { results := [.lit (.bool true)], args := [d1, d2, d3] }
  | _ => none }
def treeOrderRow : OpenClaim := { program := "ytmhbiakcadabmaa", sum := "133741465c62404f4122e6a995bd3f90a9eb3be13ca14126f60ea27a0b32a757", func := "hedgerow/hedgerowlaw10.TreeOrder", spec := "treeOrder", inPlace := ["internal/bytealg.abigen_runtime_cmpstring", "slices.overlaps[hedgerow/tree.Entry]", "slices.overlaps[*hedgerow/tree.node]"], unfollowed := true, recurses := true, apart := false }
def TreeOrderSaid : Prop := treeOrderRow.holds Try.pinned (OpenSpec.ofChange treeOrderSpec)

/-- ITS FALSE NEIGHBOUR: 'it returns false'. Refute it at one input. -/
def treeOrderWrong : ChangeSpec := { name := "treeOrder", fn := fun _ => fun
  | [d1, d2, d3] => { results := [.lit (.bool false)], args := [d1, d2, d3] }
  | _ => none }
def TreeOrderWrongFalsely : Prop := treeOrderRow.holds Try.pinned (OpenSpec.ofChange treeOrderWrong)

/-- 'hedgerowlaw10.TreeFull': WHATEVER THE INPUT: true; the input reads as it did. -/
def treeFullSpec : ChangeSpec := { name := "treeFull", fn := fun _ => fun
  | [d1, d2] => { results := [.lit (.bool true)], args := [d1, d2] }
  | _ => none }
def treeFullRow : OpenClaim := { program := "ytmhbiakcadabmaa", sum := "133741465c62404f4122e6a995bd3f90a9eb3be13ca14126f60ea27a0b32a757", func := "hedgerow/hedgerowlaw10.TreeFull", spec := "treeFull", inPlace := ["internal/bytealg.abigen_runtime_cmpstring", "slices.overlaps[hedgerow/tree.Entry]", "slices.overlaps[*hedgerow/tree.node]"], unfollowed := true, recurses := true, apart := false }
def TreeFullSaid : Prop := treeFullRow.holds Try.pinned (OpenSpec.ofChange treeFullSpec)

/-- ITS FALSE NEIGHBOUR: 'it returns false'. Refute it at one input. -/
def treeFullWrong : ChangeSpec := { name := "treeFull", fn := fun _ => fun
  | [d1, d2] => { results := [.lit (.bool false)], args := [d1, d2] }
  | _ => none }
def TreeFullWrongFalsely : Prop := treeFullRow.holds Try.pinned (OpenSpec.ofChange treeFullWrong)

/-- 'hedgerowlaw10.TreeCopies': WHATEVER THE INPUT: true; the input reads as it did. -/
def treeCopiesSpec : ChangeSpec := { name := "treeCopies", fn := fun _ => fun
  | [d1, d2] => { results := [.lit (.bool true)], args := [d1, d2] }
  | _ => none }
def treeCopiesRow : OpenClaim := { program := "ytmhbiakcadabmaa", sum := "133741465c62404f4122e6a995bd3f90a9eb3be13ca14126f60ea27a0b32a757", func := "hedgerow/hedgerowlaw10.TreeCopies", spec := "treeCopies", inPlace := ["internal/bytealg.abigen_runtime_cmpstring", "slices.overlaps[hedgerow/tree.Entry]", "slices.overlaps[*hedgerow/tree.node]"], unfollowed := true, recurses := true, apart := false }
def TreeCopiesSaid : Prop := treeCopiesRow.holds Try.pinned (OpenSpec.ofChange treeCopiesSpec)

/-- ITS FALSE NEIGHBOUR: 'it returns false'. Refute it at one input. -/
def treeCopiesWrong : ChangeSpec := { name := "treeCopies", fn := fun _ => fun
  | [d1, d2] => { results := [.lit (.bool false)], args := [d1, d2] }
  | _ => none }
def TreeCopiesWrongFalsely : Prop := treeCopiesRow.holds Try.pinned (OpenSpec.ofChange treeCopiesWrong)

/-- 'hedgerowlaw10.TreeWalks': WHATEVER THE INPUT: true; the input reads as it did. -/
def treeWalksSpec : ChangeSpec := { name := "treeWalks", fn := fun _ => fun
  | [d] => { results := [.lit (.bool true)], args := [d] }
  | _ => none }
def treeWalksRow : OpenClaim := { program := "ytmhbiakcadabmaa", sum := "133741465c62404f4122e6a995bd3f90a9eb3be13ca14126f60ea27a0b32a757", func := "hedgerow/hedgerowlaw10.TreeWalks", spec := "treeWalks", inPlace := ["internal/bytealg.abigen_runtime_cmpstring", "slices.overlaps[hedgerow/tree.Entry]", "slices.overlaps[*hedgerow/tree.node]"], unfollowed := true, recurses := true, apart := false }
def TreeWalksSaid : Prop := treeWalksRow.holds Try.pinned (OpenSpec.ofChange treeWalksSpec)

/-- ITS FALSE NEIGHBOUR: 'it returns false'. Refute it at one input. -/
def treeWalksWrong : ChangeSpec := { name := "treeWalks", fn := fun _ => fun
  | [d] => { results := [.lit (.bool false)], args := [d] }
  | _ => none }
def TreeWalksWrongFalsely : Prop := treeWalksRow.holds Try.pinned (OpenSpec.ofChange treeWalksWrong)

/-- 'hedgerowlaw10.TreePlays': WHATEVER THE INPUT: true; the input reads as it did. -/
def treePlaysSpec : ChangeSpec := { name := "treePlays", fn := fun _ => fun
  | [d1, d2] => { results := [.lit (.bool true)], args := [d1, d2] }
  | _ => none }
def treePlaysRow : OpenClaim := { program := "ytmhbiakcadabmaa", sum := "133741465c62404f4122e6a995bd3f90a9eb3be13ca14126f60ea27a0b32a757", func := "hedgerow/hedgerowlaw10.TreePlays", spec := "treePlays", inPlace := ["internal/bytealg.abigen_runtime_cmpstring", "slices.overlaps[hedgerow/tree.Entry]", "slices.overlaps[*hedgerow/tree.node]"], unfollowed := true, recurses := true, apart := false }
def TreePlaysSaid : Prop := treePlaysRow.holds Try.pinned (OpenSpec.ofChange treePlaysSpec)

/-- ITS FALSE NEIGHBOUR: 'it returns false'. Refute it at one input. -/
def treePlaysWrong : ChangeSpec := { name := "treePlays", fn := fun _ => fun
  | [d1, d2] => { results := [.lit (.bool false)], args := [d1, d2] }
  | _ => none }
def TreePlaysWrongFalsely : Prop := treePlaysRow.holds Try.pinned (OpenSpec.ofChange treePlaysWrong)

/-- 'hedgerowlaw10.TreeNone': WHATEVER THE INPUT: true; the input reads as it did. -/
def treeNoneSpec : ChangeSpec := { name := "treeNone", fn := fun _ => fun
  | [d] => { results := [.lit (.bool true)], args := [d] }
  | _ => none }
def treeNoneRow : OpenClaim := { program := "ytmhbiakcadabmaa", sum := "133741465c62404f4122e6a995bd3f90a9eb3be13ca14126f60ea27a0b32a757", func := "hedgerow/hedgerowlaw10.TreeNone", spec := "treeNone", inPlace := ["internal/bytealg.abigen_runtime_cmpstring", "slices.overlaps[hedgerow/tree.Entry]", "slices.overlaps[*hedgerow/tree.node]"], unfollowed := true, recurses := true, apart := false }
def TreeNoneSaid : Prop := treeNoneRow.holds Try.pinned (OpenSpec.ofChange treeNoneSpec)

/-- ITS FALSE NEIGHBOUR: 'it returns false'. Refute it at one input. -/
def treeNoneWrong : ChangeSpec := { name := "treeNone", fn := fun _ => fun
  | [d] => { results := [.lit (.bool false)], args := [d] }
  | _ => none }
def TreeNoneWrongFalsely : Prop := treeNoneRow.holds Try.pinned (OpenSpec.ofChange treeNoneWrong)

/- THE SECOND FORM. 'bulk': how many values and letters a reading holds, each counted each time it is reached (what is shared counts as often as it is met; a slice's spare places count too). A statement '..UptoSaid' is the law's where the arguments, and the package variables that the reading takes, are together of bulk at most 1048576: NARROWER than '..Said'. Prove '..Said' where nothing that the law and all that it calls make is longer than what came in: it says more and counts as full. Else prove '..UptoSaid'. A law counts once. -/
mutual
def uptoBulk {H : Type} : DataW H → Nat
  | .lit (.string bytes) => bytes.length + 1
  | .lit _ => 1
  | .nil => 1
  | .ptr d => uptoBulk d + 1
  | .slice elems spare => uptoBulkAll elems + uptoBulkAll spare + 1
  | .agg parts => uptoBulkAll parts + 1
  | .iface _ d => uptoBulk d + 1
  | .map entries => uptoBulkEntries entries + 1
  | .held _ => 1
def uptoBulkAll {H : Type} : List (DataW H) → Nat
  | [] => 0
  | d :: r => uptoBulk d + uptoBulkAll r
def uptoBulkEntries {H : Type} : List (Lit × DataW H) → Nat
  | [] => 0
  | x :: r => uptoBulkEntry x + uptoBulkEntries r
def uptoBulkEntry {H : Type} : Lit × DataW H → Nat
  | (.string bytes, d) => bytes.length + uptoBulk d + 1
  | (_, d) => uptoBulk d + 1
 end
def uptoSmall : (H : Type) → List (DataW H) → Bool := fun _ ds => decide (uptoBulkAll ds ≤ 1048576)
def OpenSpec.upto (s : _root_.Go.ChangeSpec) : _root_.Go.OpenSpec := { _root_.Go.OpenSpec.ofChange s with cond := some uptoSmall }

/-- 'hedgerowlaw10.TreeRanges', WHERE WHAT IT READS IS OF BULK AT MOST 1048576: true; the input reads as it did. -/
def treeRangesUptoRow : OpenClaim := { program := "ytmhbiakcadabmaa", sum := "133741465c62404f4122e6a995bd3f90a9eb3be13ca14126f60ea27a0b32a757", func := "hedgerow/hedgerowlaw10.TreeRanges", spec := "treeRanges", inPlace := ["internal/bytealg.abigen_runtime_cmpstring", "slices.overlaps[hedgerow/tree.Entry]", "slices.overlaps[*hedgerow/tree.node]"], unfollowed := true, recurses := true, apart := false, narrowed := true }
def TreeRangesUptoSaid : Prop := treeRangesUptoRow.holds Try.pinned (OpenSpec.upto treeRangesSpec)

/-- 'hedgerowlaw10.TreeOrder', WHERE WHAT IT READS IS OF BULK AT MOST 1048576: true; the input reads as it did. -/
def treeOrderUptoRow : OpenClaim := { program := "ytmhbiakcadabmaa", sum := "133741465c62404f4122e6a995bd3f90a9eb3be13ca14126f60ea27a0b32a757", func := "hedgerow/hedgerowlaw10.TreeOrder", spec := "treeOrder", inPlace := ["internal/bytealg.abigen_runtime_cmpstring", "slices.overlaps[hedgerow/tree.Entry]", "slices.overlaps[*hedgerow/tree.node]"], unfollowed := true, recurses := true, apart := false, narrowed := true }
def TreeOrderUptoSaid : Prop := treeOrderUptoRow.holds Try.pinned (OpenSpec.upto treeOrderSpec)

/-- 'hedgerowlaw10.TreeFull', WHERE WHAT IT READS IS OF BULK AT MOST 1048576: true; the input reads as it did. -/
def treeFullUptoRow : OpenClaim := { program := "ytmhbiakcadabmaa", sum := "133741465c62404f4122e6a995bd3f90a9eb3be13ca14126f60ea27a0b32a757", func := "hedgerow/hedgerowlaw10.TreeFull", spec := "treeFull", inPlace := ["internal/bytealg.abigen_runtime_cmpstring", "slices.overlaps[hedgerow/tree.Entry]", "slices.overlaps[*hedgerow/tree.node]"], unfollowed := true, recurses := true, apart := false, narrowed := true }
def TreeFullUptoSaid : Prop := treeFullUptoRow.holds Try.pinned (OpenSpec.upto treeFullSpec)

/-- 'hedgerowlaw10.TreeCopies', WHERE WHAT IT READS IS OF BULK AT MOST 1048576: true; the input reads as it did. -/
def treeCopiesUptoRow : OpenClaim := { program := "ytmhbiakcadabmaa", sum := "133741465c62404f4122e6a995bd3f90a9eb3be13ca14126f60ea27a0b32a757", func := "hedgerow/hedgerowlaw10.TreeCopies", spec := "treeCopies", inPlace := ["internal/bytealg.abigen_runtime_cmpstring", "slices.overlaps[hedgerow/tree.Entry]", "slices.overlaps[*hedgerow/tree.node]"], unfollowed := true, recurses := true, apart := false, narrowed := true }
def TreeCopiesUptoSaid : Prop := treeCopiesUptoRow.holds Try.pinned (OpenSpec.upto treeCopiesSpec)

/-- 'hedgerowlaw10.TreeWalks', WHERE WHAT IT READS IS OF BULK AT MOST 1048576: true; the input reads as it did. -/
def treeWalksUptoRow : OpenClaim := { program := "ytmhbiakcadabmaa", sum := "133741465c62404f4122e6a995bd3f90a9eb3be13ca14126f60ea27a0b32a757", func := "hedgerow/hedgerowlaw10.TreeWalks", spec := "treeWalks", inPlace := ["internal/bytealg.abigen_runtime_cmpstring", "slices.overlaps[hedgerow/tree.Entry]", "slices.overlaps[*hedgerow/tree.node]"], unfollowed := true, recurses := true, apart := false, narrowed := true }
def TreeWalksUptoSaid : Prop := treeWalksUptoRow.holds Try.pinned (OpenSpec.upto treeWalksSpec)

/-- 'hedgerowlaw10.TreePlays', WHERE WHAT IT READS IS OF BULK AT MOST 1048576: true; the input reads as it did. -/
def treePlaysUptoRow : OpenClaim := { program := "ytmhbiakcadabmaa", sum := "133741465c62404f4122e6a995bd3f90a9eb3be13ca14126f60ea27a0b32a757", func := "hedgerow/hedgerowlaw10.TreePlays", spec := "treePlays", inPlace := ["internal/bytealg.abigen_runtime_cmpstring", "slices.overlaps[hedgerow/tree.Entry]", "slices.overlaps[*hedgerow/tree.node]"], unfollowed := true, recurses := true, apart := false, narrowed := true }
def TreePlaysUptoSaid : Prop := treePlaysUptoRow.holds Try.pinned (OpenSpec.upto treePlaysSpec)

/-- 'hedgerowlaw10.TreeNone', WHERE WHAT IT READS IS OF BULK AT MOST 1048576: true; the input reads as it did. -/
def treeNoneUptoRow : OpenClaim := { program := "ytmhbiakcadabmaa", sum := "133741465c62404f4122e6a995bd3f90a9eb3be13ca14126f60ea27a0b32a757", func := "hedgerow/hedgerowlaw10.TreeNone", spec := "treeNone", inPlace := ["internal/bytealg.abigen_runtime_cmpstring", "slices.overlaps[hedgerow/tree.Entry]", "slices.overlaps[*hedgerow/tree.node]"], unfollowed := true, recurses := true, apart := false, narrowed := true }
def TreeNoneUptoSaid : Prop := treeNoneUptoRow.holds Try.pinned (OpenSpec.upto treeNoneSpec)

end Rows
end Go.Proofs.Ytmhbiakcadabmaa
