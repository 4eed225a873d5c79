/-
  NARROWER THAN 'FOR EVERY INPUT', by the rows' own cells (each row's printed sentence says how): LockPlays: laid · LockAlone: laid · LockEnds: laid · LockMany: laid · LockNone: laid · LockTurns: laid · LockMixed: laid.
  DERIVED. THE GIVEN ROWS OF THIS SEAT. 7 by the template 'for every input the law returns true; each argument reads behind the call as it read before'; 0 by the template 'total and deterministic' (their statements: YtipfjjcokajjjaaDoorTotals.lean).
  GIVEN WITH THE SEED: the statements are not yours to turn. If you find one false, say at which input.
  Laid BY PROGRAM, IN A SANDBOX (cutbox-rows.mjs): the forced cells as the released guide's own fill.sh prints them over the translation 022bda35be23a65d… (all of the seat's roots in one cut). By AI agents, Wed Nov 11 2026. No macro, syntax, notation, axiom, sorry.
-/
import Derived.Test.YtipfjjcokajjjaaDoorChecked
import GoSem.Claim
import GoSem.ClaimJoined
import GoSem.ClaimMapViews
import Derived.JoinedTies
import Derived.KernelRfl
namespace Go.Proofs.YtipfjjcokajjjaaDoor
/- THE CELL 'sum', in the pinned program and in every row, IS THE sha256 OF THE DUMP (.gsa) THAT YtipfjjcokajjjaaDoorProg.lean LOADS. Nothing in Lean hashes anything: it is a label: what it is worth is what the hold of that sum in a sandbox is worth. -/
noncomputable def Tryd.pinned : Pinned := { name := "ytipfjjcokajjjaadoor", sum := "022bda35be23a65d1d7f5246520ab9ee4e124e1ce56d4feeced76f4c884d3547", checked := Tryd.checked }
namespace Rows
def none {H : Type} : Left H := { results := [], args := [] }

/- WHAT THE LISTED PACKAGE-LEVEL VARIABLES READ AS WHEN THE CALL BEGINS. Each datum BY PROGRAM (the guide's laid-datum.mjs) off the statement by which the dump's own 'gosem.cut.vars' lays the variable. In a bare row this is a premise. The card (YtipfjjcokajjjaaDoorCards.lean) ties it to the program's text. -/
def laid_hedgerow_lock_together {H : Type} : DataW H := .agg [.agg [.lit (.bool true), .lit (.bool true), .lit (.bool true)], .agg [.lit (.bool true), .lit (.bool true), .lit (.bool false)], .agg [.lit (.bool true), .lit (.bool false), .lit (.bool false)]]

/-- 'hedgerowlaw12.LockPlays': WHATEVER THE INPUT: true; the input reads as it did. -/
def lockPlaysSpec : ChangeSpec := { name := "lockPlays", fn := fun _ => fun
  | [d] => { results := [.lit (.bool true)], args := [d] }
  | _ => none }
def lockPlaysRow : OpenClaim := { program := "ytipfjjcokajjjaadoor", sum := "022bda35be23a65d1d7f5246520ab9ee4e124e1ce56d4feeced76f4c884d3547", func := "hedgerow/hedgerowlaw12.LockPlays", spec := "lockPlays", inPlace := ["slices.overlaps[hedgerow/lock.waiter]"], unfollowed := true, recurses := true, named := ["hedgerow/lock.together"], apart := false, laid := [("hedgerow/lock.together", laid_hedgerow_lock_together)] }
def LockPlaysSaid : Prop := lockPlaysRow.holds Tryd.pinned (OpenSpec.ofChange lockPlaysSpec)

/-- ITS FALSE NEIGHBOUR: 'it returns false'. Refute it at one input. -/
def lockPlaysWrong : ChangeSpec := { name := "lockPlays", fn := fun _ => fun
  | [d] => { results := [.lit (.bool false)], args := [d] }
  | _ => none }
def LockPlaysWrongFalsely : Prop := lockPlaysRow.holds Tryd.pinned (OpenSpec.ofChange lockPlaysWrong)

/-- 'hedgerowlaw12.LockAlone': WHATEVER THE INPUT: true; the input reads as it did. -/
def lockAloneSpec : ChangeSpec := { name := "lockAlone", fn := fun _ => fun
  | [d] => { results := [.lit (.bool true)], args := [d] }
  | _ => none }
def lockAloneRow : OpenClaim := { program := "ytipfjjcokajjjaadoor", sum := "022bda35be23a65d1d7f5246520ab9ee4e124e1ce56d4feeced76f4c884d3547", func := "hedgerow/hedgerowlaw12.LockAlone", spec := "lockAlone", inPlace := ["slices.overlaps[hedgerow/lock.waiter]"], unfollowed := true, recurses := true, named := ["hedgerow/lock.together"], apart := false, laid := [("hedgerow/lock.together", laid_hedgerow_lock_together)] }
def LockAloneSaid : Prop := lockAloneRow.holds Tryd.pinned (OpenSpec.ofChange lockAloneSpec)

/-- ITS FALSE NEIGHBOUR: 'it returns false'. Refute it at one input. -/
def lockAloneWrong : ChangeSpec := { name := "lockAlone", fn := fun _ => fun
  | [d] => { results := [.lit (.bool false)], args := [d] }
  | _ => none }
def LockAloneWrongFalsely : Prop := lockAloneRow.holds Tryd.pinned (OpenSpec.ofChange lockAloneWrong)

/-- 'hedgerowlaw12.LockEnds': WHATEVER THE INPUT: true; the input reads as it did. -/
def lockEndsSpec : ChangeSpec := { name := "lockEnds", fn := fun _ => fun
  | [d1, d2] => { results := [.lit (.bool true)], args := [d1, d2] }
  | _ => none }
def lockEndsRow : OpenClaim := { program := "ytipfjjcokajjjaadoor", sum := "022bda35be23a65d1d7f5246520ab9ee4e124e1ce56d4feeced76f4c884d3547", func := "hedgerow/hedgerowlaw12.LockEnds", spec := "lockEnds", inPlace := ["slices.overlaps[hedgerow/lock.waiter]"], unfollowed := true, recurses := true, named := ["hedgerow/lock.together"], apart := false, laid := [("hedgerow/lock.together", laid_hedgerow_lock_together)] }
def LockEndsSaid : Prop := lockEndsRow.holds Tryd.pinned (OpenSpec.ofChange lockEndsSpec)

/-- ITS FALSE NEIGHBOUR: 'it returns false'. Refute it at one input. -/
def lockEndsWrong : ChangeSpec := { name := "lockEnds", fn := fun _ => fun
  | [d1, d2] => { results := [.lit (.bool false)], args := [d1, d2] }
  | _ => none }
def LockEndsWrongFalsely : Prop := lockEndsRow.holds Tryd.pinned (OpenSpec.ofChange lockEndsWrong)

/-- 'hedgerowlaw12.LockMany': WHATEVER THE INPUT: true; the input reads as it did. -/
def lockManySpec : ChangeSpec := { name := "lockMany", fn := fun _ => fun
  | [d] => { results := [.lit (.bool true)], args := [d] }
  | _ => none }
def lockManyRow : OpenClaim := { program := "ytipfjjcokajjjaadoor", sum := "022bda35be23a65d1d7f5246520ab9ee4e124e1ce56d4feeced76f4c884d3547", func := "hedgerow/hedgerowlaw12.LockMany", spec := "lockMany", inPlace := ["slices.overlaps[hedgerow/lock.waiter]"], unfollowed := true, recurses := true, named := ["hedgerow/lock.together"], apart := false, laid := [("hedgerow/lock.together", laid_hedgerow_lock_together)] }
def LockManySaid : Prop := lockManyRow.holds Tryd.pinned (OpenSpec.ofChange lockManySpec)

/-- ITS FALSE NEIGHBOUR: 'it returns false'. Refute it at one input. -/
def lockManyWrong : ChangeSpec := { name := "lockMany", fn := fun _ => fun
  | [d] => { results := [.lit (.bool false)], args := [d] }
  | _ => none }
def LockManyWrongFalsely : Prop := lockManyRow.holds Tryd.pinned (OpenSpec.ofChange lockManyWrong)

/-- 'hedgerowlaw12.LockNone': WHATEVER THE INPUT: true; the input reads as it did. -/
def lockNoneSpec : ChangeSpec := { name := "lockNone", fn := fun _ => fun
  | [d] => { results := [.lit (.bool true)], args := [d] }
  | _ => none }
def lockNoneRow : OpenClaim := { program := "ytipfjjcokajjjaadoor", sum := "022bda35be23a65d1d7f5246520ab9ee4e124e1ce56d4feeced76f4c884d3547", func := "hedgerow/hedgerowlaw12.LockNone", spec := "lockNone", inPlace := ["slices.overlaps[hedgerow/lock.waiter]"], unfollowed := true, recurses := true, named := ["hedgerow/lock.together"], apart := false, laid := [("hedgerow/lock.together", laid_hedgerow_lock_together)] }
def LockNoneSaid : Prop := lockNoneRow.holds Tryd.pinned (OpenSpec.ofChange lockNoneSpec)

/-- ITS FALSE NEIGHBOUR: 'it returns false'. Refute it at one input. -/
def lockNoneWrong : ChangeSpec := { name := "lockNone", fn := fun _ => fun
  | [d] => { results := [.lit (.bool false)], args := [d] }
  | _ => none }
def LockNoneWrongFalsely : Prop := lockNoneRow.holds Tryd.pinned (OpenSpec.ofChange lockNoneWrong)

/-- 'hedgerowlaw12.LockTurns': WHATEVER THE INPUT: true; the input reads as it did. -/
def lockTurnsSpec : ChangeSpec := { name := "lockTurns", fn := fun _ => fun
  | [d] => { results := [.lit (.bool true)], args := [d] }
  | _ => none }
def lockTurnsRow : OpenClaim := { program := "ytipfjjcokajjjaadoor", sum := "022bda35be23a65d1d7f5246520ab9ee4e124e1ce56d4feeced76f4c884d3547", func := "hedgerow/hedgerowlaw12.LockTurns", spec := "lockTurns", inPlace := ["slices.overlaps[hedgerow/lock.waiter]"], unfollowed := true, recurses := true, named := ["hedgerow/lock.together"], apart := false, laid := [("hedgerow/lock.together", laid_hedgerow_lock_together)] }
def LockTurnsSaid : Prop := lockTurnsRow.holds Tryd.pinned (OpenSpec.ofChange lockTurnsSpec)

/-- ITS FALSE NEIGHBOUR: 'it returns false'. Refute it at one input. -/
def lockTurnsWrong : ChangeSpec := { name := "lockTurns", fn := fun _ => fun
  | [d] => { results := [.lit (.bool false)], args := [d] }
  | _ => none }
def LockTurnsWrongFalsely : Prop := lockTurnsRow.holds Tryd.pinned (OpenSpec.ofChange lockTurnsWrong)

/-- 'hedgerowlaw12.LockMixed': WHATEVER THE INPUT: true; the input reads as it did. -/
def lockMixedSpec : ChangeSpec := { name := "lockMixed", fn := fun _ => fun
  | [d1, d2] => { results := [.lit (.bool true)], args := [d1, d2] }
  | _ => none }
def lockMixedRow : OpenClaim := { program := "ytipfjjcokajjjaadoor", sum := "022bda35be23a65d1d7f5246520ab9ee4e124e1ce56d4feeced76f4c884d3547", func := "hedgerow/hedgerowlaw12.LockMixed", spec := "lockMixed", inPlace := ["slices.overlaps[hedgerow/lock.waiter]"], unfollowed := true, recurses := true, named := ["hedgerow/lock.together"], apart := false, laid := [("hedgerow/lock.together", laid_hedgerow_lock_together)] }
def LockMixedSaid : Prop := lockMixedRow.holds Tryd.pinned (OpenSpec.ofChange lockMixedSpec)

/-- ITS FALSE NEIGHBOUR: 'it returns false'. Refute it at one input. -/
def lockMixedWrong : ChangeSpec := { name := "lockMixed", fn := fun _ => fun
  | [d1, d2] => { results := [.lit (.bool false)], args := [d1, d2] }
  | _ => none }
def LockMixedWrongFalsely : Prop := lockMixedRow.holds Tryd.pinned (OpenSpec.ofChange lockMixedWrong)

/- THE SECOND FORM. 'bulk': how many values and letters a reading holds, each counted each time it is reached (what is shared counts as often as it is met; a slice's spare places count too). A statement '..UptoSaid' is the law's where the arguments, and the package variables that the reading takes, are together of bulk at most 1048576: NARROWER than '..Said'. Prove '..Said' where nothing that the law and all that it calls make is longer than what came in: it says more and counts as full. Else prove '..UptoSaid'. A law counts once. -/
mutual
def uptoBulk {H : Type} : DataW H → Nat
  | .lit (.string bytes) => bytes.length + 1
  | .lit _ => 1
  | .nil => 1
  | .ptr d => uptoBulk d + 1
  | .slice elems spare => uptoBulkAll elems + uptoBulkAll spare + 1
  | .agg parts => uptoBulkAll parts + 1
  | .iface _ d => uptoBulk d + 1
  | .map entries => uptoBulkEntries entries + 1
  | .held _ => 1
def uptoBulkAll {H : Type} : List (DataW H) → Nat
  | [] => 0
  | d :: r => uptoBulk d + uptoBulkAll r
def uptoBulkEntries {H : Type} : List (Lit × DataW H) → Nat
  | [] => 0
  | x :: r => uptoBulkEntry x + uptoBulkEntries r
def uptoBulkEntry {H : Type} : Lit × DataW H → Nat
  | (.string bytes, d) => bytes.length + uptoBulk d + 1
  | (_, d) => uptoBulk d + 1
 end
def uptoSmall : (H : Type) → List (DataW H) → Bool := fun _ ds => decide (uptoBulkAll ds ≤ 1048576)
def OpenSpec.upto (s : _root_.Go.ChangeSpec) : _root_.Go.OpenSpec := { _root_.Go.OpenSpec.ofChange s with cond := some uptoSmall }

/-- 'hedgerowlaw12.LockPlays', WHERE WHAT IT READS IS OF BULK AT MOST 1048576: true; the input reads as it did. -/
def lockPlaysUptoRow : OpenClaim := { program := "ytipfjjcokajjjaadoor", sum := "022bda35be23a65d1d7f5246520ab9ee4e124e1ce56d4feeced76f4c884d3547", func := "hedgerow/hedgerowlaw12.LockPlays", spec := "lockPlays", inPlace := ["slices.overlaps[hedgerow/lock.waiter]"], unfollowed := true, recurses := true, named := ["hedgerow/lock.together"], apart := false, laid := [("hedgerow/lock.together", laid_hedgerow_lock_together)], narrowed := true }
def LockPlaysUptoSaid : Prop := lockPlaysUptoRow.holds Tryd.pinned (OpenSpec.upto lockPlaysSpec)

/-- 'hedgerowlaw12.LockAlone', WHERE WHAT IT READS IS OF BULK AT MOST 1048576: true; the input reads as it did. -/
def lockAloneUptoRow : OpenClaim := { program := "ytipfjjcokajjjaadoor", sum := "022bda35be23a65d1d7f5246520ab9ee4e124e1ce56d4feeced76f4c884d3547", func := "hedgerow/hedgerowlaw12.LockAlone", spec := "lockAlone", inPlace := ["slices.overlaps[hedgerow/lock.waiter]"], unfollowed := true, recurses := true, named := ["hedgerow/lock.together"], apart := false, laid := [("hedgerow/lock.together", laid_hedgerow_lock_together)], narrowed := true }
def LockAloneUptoSaid : Prop := lockAloneUptoRow.holds Tryd.pinned (OpenSpec.upto lockAloneSpec)

/-- 'hedgerowlaw12.LockEnds', WHERE WHAT IT READS IS OF BULK AT MOST 1048576: true; the input reads as it did. -/
def lockEndsUptoRow : OpenClaim := { program := "ytipfjjcokajjjaadoor", sum := "022bda35be23a65d1d7f5246520ab9ee4e124e1ce56d4feeced76f4c884d3547", func := "hedgerow/hedgerowlaw12.LockEnds", spec := "lockEnds", inPlace := ["slices.overlaps[hedgerow/lock.waiter]"], unfollowed := true, recurses := true, named := ["hedgerow/lock.together"], apart := false, laid := [("hedgerow/lock.together", laid_hedgerow_lock_together)], narrowed := true }
def LockEndsUptoSaid : Prop := lockEndsUptoRow.holds Tryd.pinned (OpenSpec.upto lockEndsSpec)

/-- 'hedgerowlaw12.LockMany', WHERE WHAT IT READS IS OF BULK AT MOST 1048576: true; the input reads as it did. -/
def lockManyUptoRow : OpenClaim := { program := "ytipfjjcokajjjaadoor", sum := "022bda35be23a65d1d7f5246520ab9ee4e124e1ce56d4feeced76f4c884d3547", func := "hedgerow/hedgerowlaw12.LockMany", spec := "lockMany", inPlace := ["slices.overlaps[hedgerow/lock.waiter]"], unfollowed := true, recurses := true, named := ["hedgerow/lock.together"], apart := false, laid := [("hedgerow/lock.together", laid_hedgerow_lock_together)], narrowed := true }
def LockManyUptoSaid : Prop := lockManyUptoRow.holds Tryd.pinned (OpenSpec.upto lockManySpec)

/-- 'hedgerowlaw12.LockNone', WHERE WHAT IT READS IS OF BULK AT MOST 1048576: true; the input reads as it did. -/
def lockNoneUptoRow : OpenClaim := { program := "ytipfjjcokajjjaadoor", sum := "022bda35be23a65d1d7f5246520ab9ee4e124e1ce56d4feeced76f4c884d3547", func := "hedgerow/hedgerowlaw12.LockNone", spec := "lockNone", inPlace := ["slices.overlaps[hedgerow/lock.waiter]"], unfollowed := true, recurses := true, named := ["hedgerow/lock.together"], apart := false, laid := [("hedgerow/lock.together", laid_hedgerow_lock_together)], narrowed := true }
def LockNoneUptoSaid : Prop := lockNoneUptoRow.holds Tryd.pinned (OpenSpec.upto lockNoneSpec)

/-- 'hedgerowlaw12.LockTurns', WHERE WHAT IT READS IS OF BULK AT MOST 1048576: true; the input reads as it did. -/
def lockTurnsUptoRow : OpenClaim := { program := "ytipfjjcokajjjaadoor", sum := "022bda35be23a65d1d7f5246520ab9ee4e124e1ce56d4feeced76f4c884d3547", func := "hedgerow/hedgerowlaw12.LockTurns", spec := "lockTurns", inPlace := ["slices.overlaps[hedgerow/lock.waiter]"], unfollowed := true, recurses := true, named := ["hedgerow/lock.together"], apart := false, laid := [("hedgerow/lock.together", laid_hedgerow_lock_together)], narrowed := true }
def LockTurnsUptoSaid : Prop := lockTurnsUptoRow.holds Tryd.pinned (OpenSpec.upto lockTurnsSpec)

/-- 'hedgerowlaw12.LockMixed', WHERE WHAT IT READS IS OF BULK AT MOST 1048576: true; the input reads as it did. -/
def lockMixedUptoRow : OpenClaim := { program := "ytipfjjcokajjjaadoor", sum := "022bda35be23a65d1d7f5246520ab9ee4e124e1ce56d4feeced76f4c884d3547", func := "hedgerow/hedgerowlaw12.LockMixed", spec := "lockMixed", inPlace := ["slices.overlaps[hedgerow/lock.waiter]"], unfollowed := true, recurses := true, named := ["hedgerow/lock.together"], apart := false, laid := [("hedgerow/lock.together", laid_hedgerow_lock_together)], narrowed := true }
def LockMixedUptoSaid : Prop := lockMixedUptoRow.holds Tryd.pinned (OpenSpec.upto lockMixedSpec)

end Rows
end Go.Proofs.YtipfjjcokajjjaaDoor
