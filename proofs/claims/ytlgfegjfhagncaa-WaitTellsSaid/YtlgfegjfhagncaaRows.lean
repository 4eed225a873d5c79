/-
  No cell of these rows narrows 'for every input' (looked for: loops, veiled, ifaces, maps, wideKeys, modest, calm, conditions, laid).
  DERIVED. THE GIVEN ROWS OF THIS SEAT. 4 by the template 'for every input the law returns true; each argument reads behind the call as it read before'; 0 by the template 'total and deterministic' (their statements: YtlgfegjfhagncaaTotals.lean).
  GIVEN WITH THE SEED: the statements are not yours to turn. If you find one false, say at which input.
  Laid BY PROGRAM, IN A SANDBOX (cutbox-rows.mjs): the forced cells as the released guide's own fill.sh prints them over the translation c3c5a6c12eca101a… (all of the seat's roots in one cut). By AI agents, Wed Nov 11 2026. No macro, syntax, notation, axiom, sorry.
-/
import Derived.Test.YtlgfegjfhagncaaChecked
import GoSem.Claim
import GoSem.ClaimJoined
import GoSem.ClaimMapViews
import Derived.JoinedTies
import Derived.KernelRfl
namespace Go.Proofs.Ytlgfegjfhagncaa
/- THE CELL 'sum', in the pinned program and in every row, IS THE sha256 OF THE DUMP (.gsa) THAT YtlgfegjfhagncaaProg.lean LOADS. Nothing in Lean hashes anything: it is a label: what it is worth is what the hold of that sum in a sandbox is worth. -/
noncomputable def Try.pinned : Pinned := { name := "ytlgfegjfhagncaa", sum := "c3c5a6c12eca101a6c37d67c541e4093353c745f9177f10064263331f891a016", checked := Try.checked }
namespace Rows
def none {H : Type} : Left H := { results := [], args := [] }

/-- 'hedgerowlaw13.WaitTells': WHATEVER THE INPUT: true; the input reads as it did. -/
def waitTellsSpec : ChangeSpec := { name := "waitTells", fn := fun _ => fun
  | [d1, d2] => { results := [.lit (.bool true)], args := [d1, d2] }
  | _ => none }
def waitTellsRow : OpenClaim := { program := "ytlgfegjfhagncaa", sum := "c3c5a6c12eca101a6c37d67c541e4093353c745f9177f10064263331f891a016", func := "hedgerow/hedgerowlaw13.WaitTells", spec := "waitTells", unfollowed := true, recurses := true, apart := false }
def WaitTellsSaid : Prop := waitTellsRow.holds Try.pinned (OpenSpec.ofChange waitTellsSpec)

/-- ITS FALSE NEIGHBOUR: 'it returns false'. Refute it at one input. -/
def waitTellsWrong : ChangeSpec := { name := "waitTells", fn := fun _ => fun
  | [d1, d2] => { results := [.lit (.bool false)], args := [d1, d2] }
  | _ => none }
def WaitTellsWrongFalsely : Prop := waitTellsRow.holds Try.pinned (OpenSpec.ofChange waitTellsWrong)

/-- 'hedgerowlaw13.WaitEnds': WHATEVER THE INPUT: true; the input reads as it did. -/
def waitEndsSpec : ChangeSpec := { name := "waitEnds", fn := fun _ => fun
  | [d] => { results := [.lit (.bool true)], args := [d] }
  | _ => none }
def waitEndsRow : OpenClaim := { program := "ytlgfegjfhagncaa", sum := "c3c5a6c12eca101a6c37d67c541e4093353c745f9177f10064263331f891a016", func := "hedgerow/hedgerowlaw13.WaitEnds", spec := "waitEnds", unfollowed := true, recurses := true, apart := false }
def WaitEndsSaid : Prop := waitEndsRow.holds Try.pinned (OpenSpec.ofChange waitEndsSpec)

/-- ITS FALSE NEIGHBOUR: 'it returns false'. Refute it at one input. -/
def waitEndsWrong : ChangeSpec := { name := "waitEnds", fn := fun _ => fun
  | [d] => { results := [.lit (.bool false)], args := [d] }
  | _ => none }
def WaitEndsWrongFalsely : Prop := waitEndsRow.holds Try.pinned (OpenSpec.ofChange waitEndsWrong)

/-- 'hedgerowlaw13.WaitOrder': WHATEVER THE INPUT: true; the input reads as it did. -/
def waitOrderSpec : ChangeSpec := { name := "waitOrder", fn := fun _ => fun
  | [d1, d2, d3] => { results := [.lit (.bool true)], args := [d1, d2, d3] }
  | _ => none }
def waitOrderRow : OpenClaim := { program := "ytlgfegjfhagncaa", sum := "c3c5a6c12eca101a6c37d67c541e4093353c745f9177f10064263331f891a016", func := "hedgerow/hedgerowlaw13.WaitOrder", spec := "waitOrder", unfollowed := true, recurses := true, apart := false }
def WaitOrderSaid : Prop := waitOrderRow.holds Try.pinned (OpenSpec.ofChange waitOrderSpec)

/-- ITS FALSE NEIGHBOUR: 'it returns false'. Refute it at one input. -/
def waitOrderWrong : ChangeSpec := { name := "waitOrder", fn := fun _ => fun
  | [d1, d2, d3] => { results := [.lit (.bool false)], args := [d1, d2, d3] }
  | _ => none }
def WaitOrderWrongFalsely : Prop := waitOrderRow.holds Try.pinned (OpenSpec.ofChange waitOrderWrong)

/-- 'hedgerowlaw13.WaitLeads': WHATEVER THE INPUT: true; the input reads as it did. -/
def waitLeadsSpec : ChangeSpec := { name := "waitLeads", fn := fun _ => fun
  | [d1, d2] => { results := [.lit (.bool true)], args := [d1, d2] }
  | _ => none }
def waitLeadsRow : OpenClaim := { program := "ytlgfegjfhagncaa", sum := "c3c5a6c12eca101a6c37d67c541e4093353c745f9177f10064263331f891a016", func := "hedgerow/hedgerowlaw13.WaitLeads", spec := "waitLeads", unfollowed := true, recurses := true, apart := false }
def WaitLeadsSaid : Prop := waitLeadsRow.holds Try.pinned (OpenSpec.ofChange waitLeadsSpec)

/-- ITS FALSE NEIGHBOUR: 'it returns false'. Refute it at one input. -/
def waitLeadsWrong : ChangeSpec := { name := "waitLeads", fn := fun _ => fun
  | [d1, d2] => { results := [.lit (.bool false)], args := [d1, d2] }
  | _ => none }
def WaitLeadsWrongFalsely : Prop := waitLeadsRow.holds Try.pinned (OpenSpec.ofChange waitLeadsWrong)

/- THE SECOND FORM. 'bulk': how many values and letters a reading holds, each counted each time it is reached (what is shared counts as often as it is met; a slice's spare places count too). A statement '..UptoSaid' is the law's where the arguments, and the package variables that the reading takes, are together of bulk at most 1048576: NARROWER than '..Said'. Prove '..Said' where nothing that the law and all that it calls make is longer than what came in: it says more and counts as full. Else prove '..UptoSaid'. A law counts once. -/
mutual
def uptoBulk {H : Type} : DataW H → Nat
  | .lit (.string bytes) => bytes.length + 1
  | .lit _ => 1
  | .nil => 1
  | .ptr d => uptoBulk d + 1
  | .slice elems spare => uptoBulkAll elems + uptoBulkAll spare + 1
  | .agg parts => uptoBulkAll parts + 1
  | .iface _ d => uptoBulk d + 1
  | .map entries => uptoBulkEntries entries + 1
  | .held _ => 1
def uptoBulkAll {H : Type} : List (DataW H) → Nat
  | [] => 0
  | d :: r => uptoBulk d + uptoBulkAll r
def uptoBulkEntries {H : Type} : List (Lit × DataW H) → Nat
  | [] => 0
  | x :: r => uptoBulkEntry x + uptoBulkEntries r
def uptoBulkEntry {H : Type} : Lit × DataW H → Nat
  | (.string bytes, d) => bytes.length + uptoBulk d + 1
  | (_, d) => uptoBulk d + 1
 end
def uptoSmall : (H : Type) → List (DataW H) → Bool := fun _ ds => decide (uptoBulkAll ds ≤ 1048576)
def OpenSpec.upto (s : _root_.Go.ChangeSpec) : _root_.Go.OpenSpec := { _root_.Go.OpenSpec.ofChange s with cond := some uptoSmall }

/-- 'hedgerowlaw13.WaitTells', WHERE WHAT IT READS IS OF BULK AT MOST 1048576: true; the input reads as it did. -/
def waitTellsUptoRow : OpenClaim := { program := "ytlgfegjfhagncaa", sum := "c3c5a6c12eca101a6c37d67c541e4093353c745f9177f10064263331f891a016", func := "hedgerow/hedgerowlaw13.WaitTells", spec := "waitTells", unfollowed := true, recurses := true, apart := false, narrowed := true }
def WaitTellsUptoSaid : Prop := waitTellsUptoRow.holds Try.pinned (OpenSpec.upto waitTellsSpec)

/-- 'hedgerowlaw13.WaitEnds', WHERE WHAT IT READS IS OF BULK AT MOST 1048576: true; the input reads as it did. -/
def waitEndsUptoRow : OpenClaim := { program := "ytlgfegjfhagncaa", sum := "c3c5a6c12eca101a6c37d67c541e4093353c745f9177f10064263331f891a016", func := "hedgerow/hedgerowlaw13.WaitEnds", spec := "waitEnds", unfollowed := true, recurses := true, apart := false, narrowed := true }
def WaitEndsUptoSaid : Prop := waitEndsUptoRow.holds Try.pinned (OpenSpec.upto waitEndsSpec)

/-- 'hedgerowlaw13.WaitOrder', WHERE WHAT IT READS IS OF BULK AT MOST 1048576: true; the input reads as it did. -/
def waitOrderUptoRow : OpenClaim := { program := "ytlgfegjfhagncaa", sum := "c3c5a6c12eca101a6c37d67c541e4093353c745f9177f10064263331f891a016", func := "hedgerow/hedgerowlaw13.WaitOrder", spec := "waitOrder", unfollowed := true, recurses := true, apart := false, narrowed := true }
def WaitOrderUptoSaid : Prop := waitOrderUptoRow.holds Try.pinned (OpenSpec.upto waitOrderSpec)

/-- 'hedgerowlaw13.WaitLeads', WHERE WHAT IT READS IS OF BULK AT MOST 1048576: true; the input reads as it did. -/
def waitLeadsUptoRow : OpenClaim := { program := "ytlgfegjfhagncaa", sum := "c3c5a6c12eca101a6c37d67c541e4093353c745f9177f10064263331f891a016", func := "hedgerow/hedgerowlaw13.WaitLeads", spec := "waitLeads", unfollowed := true, recurses := true, apart := false, narrowed := true }
def WaitLeadsUptoSaid : Prop := waitLeadsUptoRow.holds Try.pinned (OpenSpec.upto waitLeadsSpec)

end Rows
end Go.Proofs.Ytlgfegjfhagncaa
