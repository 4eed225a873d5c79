/-
  No cell of these rows narrows 'for every input' (looked for: loops, veiled, ifaces, maps, wideKeys, modest, calm, conditions, laid).
  DERIVED. THE GIVEN ROWS OF THIS SEAT. 4 by the template 'for every input the law returns true; each argument reads behind the call as it read before'; 0 by the template 'total and deterministic' (their statements: YtpaffpiaoanegaaTotals.lean).
  GIVEN WITH THE SEED: the statements are not yours to turn. If you find one false, say at which input.
  Laid BY PROGRAM, IN A SANDBOX (cutbox-rows.mjs): the forced cells as the released guide's own fill.sh prints them over the translation 7f01ef483d16b8e1… (all of the seat's roots in one cut). By AI agents, Wed Nov 11 2026. No macro, syntax, notation, axiom, sorry.
-/
import Derived.Test.YtpaffpiaoanegaaChecked
import GoSem.Claim
import GoSem.ClaimJoined
import GoSem.ClaimMapViews
import Derived.JoinedTies
import Derived.KernelRfl
namespace Go.Proofs.Ytpaffpiaoanegaa
/- THE CELL 'sum', in the pinned program and in every row, IS THE sha256 OF THE DUMP (.gsa) THAT YtpaffpiaoanegaaProg.lean LOADS. Nothing in Lean hashes anything: it is a label: what it is worth is what the hold of that sum in a sandbox is worth. -/
noncomputable def Try.pinned : Pinned := { name := "ytpaffpiaoanegaa", sum := "7f01ef483d16b8e1da2f224290b22734f49a7d924fd2437eeb6a549dffe4d902", checked := Try.checked }
namespace Rows
def none {H : Type} : Left H := { results := [], args := [] }

/-- 'hedgerowlaw11.BulkNone': WHATEVER THE INPUT: true; the input reads as it did. -/
def bulkNoneSpec : ChangeSpec := { name := "bulkNone", fn := fun _ => fun
  | [d] => { results := [.lit (.bool true)], args := [d] }
  | _ => none }
def bulkNoneRow : OpenClaim := { program := "ytpaffpiaoanegaa", sum := "7f01ef483d16b8e1da2f224290b22734f49a7d924fd2437eeb6a549dffe4d902", func := "hedgerow/hedgerowlaw11.BulkNone", spec := "bulkNone", inPlace := ["sync/atomic.LoadUint32", "(*internal/sync.Mutex).Lock", "internal/race.Disable", "sync/atomic.CompareAndSwapInt32", "internal/race.Enable", "internal/race.Acquire", "(*internal/sync.Mutex).lockSlow", "internal/sync.runtime_canSpin", "internal/sync.runtime_doSpin", "internal/sync.throw", "internal/sync.runtime_nanotime", "internal/sync.runtime_SemacquireMutex", "sync/atomic.AddInt32", "(*internal/sync.Mutex).Unlock", "internal/race.ReleaseMerge", "(*internal/sync.Mutex).unlockSlow", "internal/sync.fatal", "internal/sync.runtime_Semrelease", "sync/atomic.StoreUint32", "internal/bytealg.abigen_runtime_cmpstring", "slices.overlaps[hedgerow/tree.Entry]", "slices.overlaps[*hedgerow/tree.node]"], unfollowed := true, recurses := true, apart := false }
def BulkNoneSaid : Prop := bulkNoneRow.holds Try.pinned (OpenSpec.ofChange bulkNoneSpec)

/-- ITS FALSE NEIGHBOUR: 'it returns false'. Refute it at one input. -/
def bulkNoneWrong : ChangeSpec := { name := "bulkNone", fn := fun _ => fun
  | [d] => { results := [.lit (.bool false)], args := [d] }
  | _ => none }
def BulkNoneWrongFalsely : Prop := bulkNoneRow.holds Try.pinned (OpenSpec.ofChange bulkNoneWrong)

/-- 'hedgerowlaw11.BulkAlike': WHATEVER THE INPUT: true; the input reads as it did. -/
def bulkAlikeSpec : ChangeSpec := { name := "bulkAlike", fn := fun _ => fun
  | [d1, d2] => { results := [.lit (.bool true)], args := [d1, d2] }
  | _ => none }
def bulkAlikeRow : OpenClaim := { program := "ytpaffpiaoanegaa", sum := "7f01ef483d16b8e1da2f224290b22734f49a7d924fd2437eeb6a549dffe4d902", func := "hedgerow/hedgerowlaw11.BulkAlike", spec := "bulkAlike", inPlace := ["internal/bytealg.abigen_runtime_cmpstring", "slices.overlaps[hedgerow/tree.Entry]", "slices.overlaps[*hedgerow/tree.node]", "sync/atomic.LoadUint32", "(*internal/sync.Mutex).Lock", "internal/race.Disable", "sync/atomic.CompareAndSwapInt32", "internal/race.Enable", "internal/race.Acquire", "(*internal/sync.Mutex).lockSlow", "internal/sync.runtime_canSpin", "internal/sync.runtime_doSpin", "internal/sync.throw", "internal/sync.runtime_nanotime", "internal/sync.runtime_SemacquireMutex", "sync/atomic.AddInt32", "(*internal/sync.Mutex).Unlock", "internal/race.ReleaseMerge", "(*internal/sync.Mutex).unlockSlow", "internal/sync.fatal", "internal/sync.runtime_Semrelease", "sync/atomic.StoreUint32"], unfollowed := true, recurses := true, apart := false }
def BulkAlikeSaid : Prop := bulkAlikeRow.holds Try.pinned (OpenSpec.ofChange bulkAlikeSpec)

/-- ITS FALSE NEIGHBOUR: 'it returns false'. Refute it at one input. -/
def bulkAlikeWrong : ChangeSpec := { name := "bulkAlike", fn := fun _ => fun
  | [d1, d2] => { results := [.lit (.bool false)], args := [d1, d2] }
  | _ => none }
def BulkAlikeWrongFalsely : Prop := bulkAlikeRow.holds Try.pinned (OpenSpec.ofChange bulkAlikeWrong)

/-- 'hedgerowlaw11.BulkKeeps': WHATEVER THE INPUT: true; the input reads as it did. -/
def bulkKeepsSpec : ChangeSpec := { name := "bulkKeeps", fn := fun _ => fun
  | [d1, d2] => { results := [.lit (.bool true)], args := [d1, d2] }
  | _ => none }
def bulkKeepsRow : OpenClaim := { program := "ytpaffpiaoanegaa", sum := "7f01ef483d16b8e1da2f224290b22734f49a7d924fd2437eeb6a549dffe4d902", func := "hedgerow/hedgerowlaw11.BulkKeeps", spec := "bulkKeeps", inPlace := ["internal/bytealg.abigen_runtime_cmpstring", "slices.overlaps[hedgerow/tree.Entry]", "slices.overlaps[*hedgerow/tree.node]", "sync/atomic.LoadUint32", "(*internal/sync.Mutex).Lock", "internal/race.Disable", "sync/atomic.CompareAndSwapInt32", "internal/race.Enable", "internal/race.Acquire", "(*internal/sync.Mutex).lockSlow", "internal/sync.runtime_canSpin", "internal/sync.runtime_doSpin", "internal/sync.throw", "internal/sync.runtime_nanotime", "internal/sync.runtime_SemacquireMutex", "sync/atomic.AddInt32", "(*internal/sync.Mutex).Unlock", "internal/race.ReleaseMerge", "(*internal/sync.Mutex).unlockSlow", "internal/sync.fatal", "internal/sync.runtime_Semrelease", "sync/atomic.StoreUint32"], unfollowed := true, recurses := true, apart := false }
def BulkKeepsSaid : Prop := bulkKeepsRow.holds Try.pinned (OpenSpec.ofChange bulkKeepsSpec)

/-- ITS FALSE NEIGHBOUR: 'it returns false'. Refute it at one input. -/
def bulkKeepsWrong : ChangeSpec := { name := "bulkKeeps", fn := fun _ => fun
  | [d1, d2] => { results := [.lit (.bool false)], args := [d1, d2] }
  | _ => none }
def BulkKeepsWrongFalsely : Prop := bulkKeepsRow.holds Try.pinned (OpenSpec.ofChange bulkKeepsWrong)

/-- 'hedgerowlaw11.BulkPlays': WHATEVER THE INPUT: true; the input reads as it did. -/
def bulkPlaysSpec : ChangeSpec := { name := "bulkPlays", fn := fun _ => fun
  | [d1, d2, d3] => { results := [.lit (.bool true)], args := [d1, d2, d3] }
  | _ => none }
def bulkPlaysRow : OpenClaim := { program := "ytpaffpiaoanegaa", sum := "7f01ef483d16b8e1da2f224290b22734f49a7d924fd2437eeb6a549dffe4d902", func := "hedgerow/hedgerowlaw11.BulkPlays", spec := "bulkPlays", inPlace := ["internal/bytealg.abigen_runtime_cmpstring", "slices.overlaps[hedgerow/tree.Entry]", "slices.overlaps[*hedgerow/tree.node]", "sync/atomic.LoadUint32", "(*internal/sync.Mutex).Lock", "internal/race.Disable", "sync/atomic.CompareAndSwapInt32", "internal/race.Enable", "internal/race.Acquire", "(*internal/sync.Mutex).lockSlow", "internal/sync.runtime_canSpin", "internal/sync.runtime_doSpin", "internal/sync.throw", "internal/sync.runtime_nanotime", "internal/sync.runtime_SemacquireMutex", "sync/atomic.AddInt32", "(*internal/sync.Mutex).Unlock", "internal/race.ReleaseMerge", "(*internal/sync.Mutex).unlockSlow", "internal/sync.fatal", "internal/sync.runtime_Semrelease", "sync/atomic.StoreUint32"], unfollowed := true, recurses := true, apart := false }
def BulkPlaysSaid : Prop := bulkPlaysRow.holds Try.pinned (OpenSpec.ofChange bulkPlaysSpec)

/-- ITS FALSE NEIGHBOUR: 'it returns false'. Refute it at one input. -/
def bulkPlaysWrong : ChangeSpec := { name := "bulkPlays", fn := fun _ => fun
  | [d1, d2, d3] => { results := [.lit (.bool false)], args := [d1, d2, d3] }
  | _ => none }
def BulkPlaysWrongFalsely : Prop := bulkPlaysRow.holds Try.pinned (OpenSpec.ofChange bulkPlaysWrong)

/- THE SECOND FORM. 'bulk': how many values and letters a reading holds, each counted each time it is reached (what is shared counts as often as it is met; a slice's spare places count too). A statement '..UptoSaid' is the law's where the arguments, and the package variables that the reading takes, are together of bulk at most 1048576: NARROWER than '..Said'. Prove '..Said' where nothing that the law and all that it calls make is longer than what came in: it says more and counts as full. Else prove '..UptoSaid'. A law counts once. -/
mutual
def uptoBulk {H : Type} : DataW H → Nat
  | .lit (.string bytes) => bytes.length + 1
  | .lit _ => 1
  | .nil => 1
  | .ptr d => uptoBulk d + 1
  | .slice elems spare => uptoBulkAll elems + uptoBulkAll spare + 1
  | .agg parts => uptoBulkAll parts + 1
  | .iface _ d => uptoBulk d + 1
  | .map entries => uptoBulkEntries entries + 1
  | .held _ => 1
def uptoBulkAll {H : Type} : List (DataW H) → Nat
  | [] => 0
  | d :: r => uptoBulk d + uptoBulkAll r
def uptoBulkEntries {H : Type} : List (Lit × DataW H) → Nat
  | [] => 0
  | x :: r => uptoBulkEntry x + uptoBulkEntries r
def uptoBulkEntry {H : Type} : Lit × DataW H → Nat
  | (.string bytes, d) => bytes.length + uptoBulk d + 1
  | (_, d) => uptoBulk d + 1
 end
def uptoSmall : (H : Type) → List (DataW H) → Bool := fun _ ds => decide (uptoBulkAll ds ≤ 1048576)
def OpenSpec.upto (s : _root_.Go.ChangeSpec) : _root_.Go.OpenSpec := { _root_.Go.OpenSpec.ofChange s with cond := some uptoSmall }

/-- 'hedgerowlaw11.BulkNone', WHERE WHAT IT READS IS OF BULK AT MOST 1048576: true; the input reads as it did. -/
def bulkNoneUptoRow : OpenClaim := { program := "ytpaffpiaoanegaa", sum := "7f01ef483d16b8e1da2f224290b22734f49a7d924fd2437eeb6a549dffe4d902", func := "hedgerow/hedgerowlaw11.BulkNone", spec := "bulkNone", inPlace := ["sync/atomic.LoadUint32", "(*internal/sync.Mutex).Lock", "internal/race.Disable", "sync/atomic.CompareAndSwapInt32", "internal/race.Enable", "internal/race.Acquire", "(*internal/sync.Mutex).lockSlow", "internal/sync.runtime_canSpin", "internal/sync.runtime_doSpin", "internal/sync.throw", "internal/sync.runtime_nanotime", "internal/sync.runtime_SemacquireMutex", "sync/atomic.AddInt32", "(*internal/sync.Mutex).Unlock", "internal/race.ReleaseMerge", "(*internal/sync.Mutex).unlockSlow", "internal/sync.fatal", "internal/sync.runtime_Semrelease", "sync/atomic.StoreUint32", "internal/bytealg.abigen_runtime_cmpstring", "slices.overlaps[hedgerow/tree.Entry]", "slices.overlaps[*hedgerow/tree.node]"], unfollowed := true, recurses := true, apart := false, narrowed := true }
def BulkNoneUptoSaid : Prop := bulkNoneUptoRow.holds Try.pinned (OpenSpec.upto bulkNoneSpec)

/-- 'hedgerowlaw11.BulkAlike', WHERE WHAT IT READS IS OF BULK AT MOST 1048576: true; the input reads as it did. -/
def bulkAlikeUptoRow : OpenClaim := { program := "ytpaffpiaoanegaa", sum := "7f01ef483d16b8e1da2f224290b22734f49a7d924fd2437eeb6a549dffe4d902", func := "hedgerow/hedgerowlaw11.BulkAlike", spec := "bulkAlike", inPlace := ["internal/bytealg.abigen_runtime_cmpstring", "slices.overlaps[hedgerow/tree.Entry]", "slices.overlaps[*hedgerow/tree.node]", "sync/atomic.LoadUint32", "(*internal/sync.Mutex).Lock", "internal/race.Disable", "sync/atomic.CompareAndSwapInt32", "internal/race.Enable", "internal/race.Acquire", "(*internal/sync.Mutex).lockSlow", "internal/sync.runtime_canSpin", "internal/sync.runtime_doSpin", "internal/sync.throw", "internal/sync.runtime_nanotime", "internal/sync.runtime_SemacquireMutex", "sync/atomic.AddInt32", "(*internal/sync.Mutex).Unlock", "internal/race.ReleaseMerge", "(*internal/sync.Mutex).unlockSlow", "internal/sync.fatal", "internal/sync.runtime_Semrelease", "sync/atomic.StoreUint32"], unfollowed := true, recurses := true, apart := false, narrowed := true }
def BulkAlikeUptoSaid : Prop := bulkAlikeUptoRow.holds Try.pinned (OpenSpec.upto bulkAlikeSpec)

/-- 'hedgerowlaw11.BulkKeeps', WHERE WHAT IT READS IS OF BULK AT MOST 1048576: true; the input reads as it did. -/
def bulkKeepsUptoRow : OpenClaim := { program := "ytpaffpiaoanegaa", sum := "7f01ef483d16b8e1da2f224290b22734f49a7d924fd2437eeb6a549dffe4d902", func := "hedgerow/hedgerowlaw11.BulkKeeps", spec := "bulkKeeps", inPlace := ["internal/bytealg.abigen_runtime_cmpstring", "slices.overlaps[hedgerow/tree.Entry]", "slices.overlaps[*hedgerow/tree.node]", "sync/atomic.LoadUint32", "(*internal/sync.Mutex).Lock", "internal/race.Disable", "sync/atomic.CompareAndSwapInt32", "internal/race.Enable", "internal/race.Acquire", "(*internal/sync.Mutex).lockSlow", "internal/sync.runtime_canSpin", "internal/sync.runtime_doSpin", "internal/sync.throw", "internal/sync.runtime_nanotime", "internal/sync.runtime_SemacquireMutex", "sync/atomic.AddInt32", "(*internal/sync.Mutex).Unlock", "internal/race.ReleaseMerge", "(*internal/sync.Mutex).unlockSlow", "internal/sync.fatal", "internal/sync.runtime_Semrelease", "sync/atomic.StoreUint32"], unfollowed := true, recurses := true, apart := false, narrowed := true }
def BulkKeepsUptoSaid : Prop := bulkKeepsUptoRow.holds Try.pinned (OpenSpec.upto bulkKeepsSpec)

/-- 'hedgerowlaw11.BulkPlays', WHERE WHAT IT READS IS OF BULK AT MOST 1048576: true; the input reads as it did. -/
def bulkPlaysUptoRow : OpenClaim := { program := "ytpaffpiaoanegaa", sum := "7f01ef483d16b8e1da2f224290b22734f49a7d924fd2437eeb6a549dffe4d902", func := "hedgerow/hedgerowlaw11.BulkPlays", spec := "bulkPlays", inPlace := ["internal/bytealg.abigen_runtime_cmpstring", "slices.overlaps[hedgerow/tree.Entry]", "slices.overlaps[*hedgerow/tree.node]", "sync/atomic.LoadUint32", "(*internal/sync.Mutex).Lock", "internal/race.Disable", "sync/atomic.CompareAndSwapInt32", "internal/race.Enable", "internal/race.Acquire", "(*internal/sync.Mutex).lockSlow", "internal/sync.runtime_canSpin", "internal/sync.runtime_doSpin", "internal/sync.throw", "internal/sync.runtime_nanotime", "internal/sync.runtime_SemacquireMutex", "sync/atomic.AddInt32", "(*internal/sync.Mutex).Unlock", "internal/race.ReleaseMerge", "(*internal/sync.Mutex).unlockSlow", "internal/sync.fatal", "internal/sync.runtime_Semrelease", "sync/atomic.StoreUint32"], unfollowed := true, recurses := true, apart := false, narrowed := true }
def BulkPlaysUptoSaid : Prop := bulkPlaysUptoRow.holds Try.pinned (OpenSpec.upto bulkPlaysSpec)

end Rows
end Go.Proofs.Ytpaffpiaoanegaa
